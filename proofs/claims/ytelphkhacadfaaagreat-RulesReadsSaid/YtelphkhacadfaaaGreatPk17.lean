/-
  The walk of the document's own rule: a declaration's rule.
-/
import Derived.Test.YtelphkhacadfaaaGreatPk13
import Derived.Test.YtelphkhacadfaaaGreatPk15
import Derived.Test.YtelphkhacadfaaaGreatPk16

namespace Go.Proofs.YtelphkhacadfaaaGreat
open Go.RowKit Go.Sort

theorem BRow.touch {w w' : World} {v : Value} {l : List Po.Box} {k : Nat} (h : BRow w v l) (hb : Touch k w w') (hne : v.ownBlock ≠ some k) : BRow w' v l := h.imp id (fun r => r.touch hb hne)
theorem rsum_ne {l : List Po.Decl} {k : Int} {x : Po.Who} {er : Int} (h : Ru.rsum l k x = .error er) : er ≠ 0 := by
  unfold Ru.rsum at h
  split at h
  · cases h
  · split at h
    · split at h
      · cases h; decide
      · cases h
    · split at h
      · cases h; decide
      · split at h
        · cases h; decide
        · cases h
/-- the blocks of rule: the declaration, the two results, the rule that is made -/
structure RlS (w : World) (d : Po.Decl) (xd : Value) (p1 p2 b : Nat) (r : Ru.Rule) (x : Value) (wx : World) : Prop where
  dec : Blk wx w.heap.size (declCells d xd) 39
  res : Blk wx p1 (ruleArr ⟨0, 0, 0, 0, 0, [], 0⟩ (.slice none 0 0)) 52
  flt : Blk wx p2 #[.int .i64 0, .int .i64 0, .int .i64 0] 27
  rul : Blk wx b (ruleArr r x) 52
  bel : Below w.heap.size w wx
  lt : w.heap.size < p1 ∧ p1 < p2 ∧ p2 < b
section
variable {w wx wy : World} {d : Po.Decl} {xd x : Value} {p1 p2 b : Nat} {r : Ru.Rule}
theorem RlS.ext (h : RlS w d xd p1 p2 b r x wx) (hb : Below wx.heap.size wx wy) : RlS w d xd p1 p2 b r x wy :=
  ⟨h.dec.ext hb, h.res.ext hb, h.flt.ext hb, h.rul.ext hb, h.bel.trans (hb.mono h.bel.size), h.lt⟩
theorem RlS.set (h : RlS w d xd p1 p2 b r x wx) (o : Nat) (u : Value) (r' : Ru.Rule) (x' : Value) (e : (ruleArr r x).setIfInBounds o u = ruleArr r' x') : RlS w d xd p1 p2 b r' x' (wx.setCell ⟨b, o, none⟩ u) := by
  obtain ⟨h1, h2, h3⟩ := h.lt
  exact ⟨h.dec.setOther (by omega) o u, h.res.setOther (by omega) o u, h.flt.setOther (by omega) o u, e ▸ h.rul.set o u, bset h.bel (by omega) u, h.lt⟩
theorem RlS.fail (h : RlS w d xd p1 p2 b r x wx) (e l c : Value) :
    Blk ((((((((((wx.setCell ⟨p1, 0, none⟩ (.int .i64 r.kind)).setCell ⟨p1, 1, none⟩ (.int .i64 r.roles)).setCell ⟨p1, 2, none⟩ (.int .i64 r.lo)).setCell ⟨p1, 3, none⟩ (.int .i64 r.hi)).setCell ⟨p1, 4, none⟩ (.int .i64 r.labels)).setCell ⟨p1, 5, none⟩ x).setCell ⟨p1, 6, none⟩ (.int .i64 r.zoom)).setCell ⟨p2, 0, none⟩ e).setCell ⟨p2, 1, none⟩ l).setCell ⟨p2, 2, none⟩ c).drew p1 (ruleArr r x) 52 ∧
    Blk ((((((((((wx.setCell ⟨p1, 0, none⟩ (.int .i64 r.kind)).setCell ⟨p1, 1, none⟩ (.int .i64 r.roles)).setCell ⟨p1, 2, none⟩ (.int .i64 r.lo)).setCell ⟨p1, 3, none⟩ (.int .i64 r.hi)).setCell ⟨p1, 4, none⟩ (.int .i64 r.labels)).setCell ⟨p1, 5, none⟩ x).setCell ⟨p1, 6, none⟩ (.int .i64 r.zoom)).setCell ⟨p2, 0, none⟩ e).setCell ⟨p2, 1, none⟩ l).setCell ⟨p2, 2, none⟩ c).drew p2 #[e, l, c] 27 ∧
    Below w.heap.size w ((((((((((wx.setCell ⟨p1, 0, none⟩ (.int .i64 r.kind)).setCell ⟨p1, 1, none⟩ (.int .i64 r.roles)).setCell ⟨p1, 2, none⟩ (.int .i64 r.lo)).setCell ⟨p1, 3, none⟩ (.int .i64 r.hi)).setCell ⟨p1, 4, none⟩ (.int .i64 r.labels)).setCell ⟨p1, 5, none⟩ x).setCell ⟨p1, 6, none⟩ (.int .i64 r.zoom)).setCell ⟨p2, 0, none⟩ e).setCell ⟨p2, 1, none⟩ l).setCell ⟨p2, 2, none⟩ c).drew := by
  obtain ⟨h1, h2, h3⟩ := h.lt
  have n1 : p1 ≠ p2 := by omega
  have n2 : p2 ≠ p1 := by omega
  have b1 : w.heap.size ≤ p1 := by omega
  have b2 : w.heap.size ≤ p2 := by omega
  refine ⟨?_, ?_, ?_⟩
  · rw [Blk.drew_iff, Blk.setOther_iff n1, Blk.setOther_iff n1, Blk.setOther_iff n1]
    exact blk_set7 h.res _ _ _ _ _ _ _
  · rw [Blk.drew_iff]
    refine blk_set3 (a0 := .int .i64 0) (a1 := .int .i64 0) (a2 := .int .i64 0) ?_ e l c
    rw [Blk.setOther_iff n2, Blk.setOther_iff n2, Blk.setOther_iff n2, Blk.setOther_iff n2, Blk.setOther_iff n2, Blk.setOther_iff n2, Blk.setOther_iff n2]
    exact h.flt
  · simp only [below_drew_iff]
    exact bset (bset (bset (bset (bset (bset (bset (bset (bset (bset h.bel b1 _) b1 _) b1 _) b1 _) b1 _) b1 _) b1 _) b2 _) b2 _) b2 _
theorem RlS.flt1 (h : RlS w d xd p1 p2 b r x wx) (cs : Array Value) : Blk (wx.setRow p1 cs) p2 #[.int .i64 0, .int .i64 0, .int .i64 0] 27 := by
  obtain ⟨h1, h2, h3⟩ := h.lt
  exact h.flt.setRowOther (by omega)
theorem RlS.done (h : RlS w d xd p1 p2 b r x wx) : Blk ((wx.setRow p1 (ruleArr r x)).setRow p2 #[.int .i64 0, .int .i64 0, .int .i64 0]) p1 (ruleArr r x) 52 ∧
    Blk ((wx.setRow p1 (ruleArr r x)).setRow p2 #[.int .i64 0, .int .i64 0, .int .i64 0]) p2 #[.int .i64 0, .int .i64 0, .int .i64 0] 27 ∧ Below w.heap.size w ((wx.setRow p1 (ruleArr r x)).setRow p2 #[.int .i64 0, .int .i64 0, .int .i64 0]) := by
  obtain ⟨h1, h2, h3⟩ := h.lt
  exact ⟨(h.res.setRow _).setRowOther (by omega), (h.flt1 _).setRow _, below_setRow (below_setRow h.bel (by omega) _) (by omega) _⟩
end
/-- a rule's boxes, while the call's own blocks are written -/
def XK (p1 p2 b : Nat) (wx : World) (x : Value) (bs : List Po.Box) : Prop := (∃ p c, x = .slice p 0 c ∧ bs = []) ∨ (Row wx x bs.length 4 (boxesCells bs) ∧ ∀ k, x.ownBlock = some k → k ≠ p1 ∧ k ≠ p2 ∧ k ≠ b)
section
variable {p1 p2 b : Nat} {wx wy : World} {x : Value} {bs : List Po.Box}
theorem XK.touch {k : Nat} (h : XK p1 p2 b wx x bs) (hk : k = p1 ∨ k = p2 ∨ k = b) (ht : Touch k wx wy) : XK p1 p2 b wy x bs :=
  h.imp id fun ⟨h1, h2⟩ => ⟨h1.touch ht (fun e => by have := h2 k e; omega), h2⟩
theorem XK.ext (h : XK p1 p2 b wx x bs) (hb : Below wx.heap.size wx wy) : XK p1 p2 b wy x bs := h.imp id fun ⟨h1, h2⟩ => ⟨h1.ext hb, h2⟩
theorem XK.br (h : XK p1 p2 b wx x bs) : BRow wx x bs := h.imp id fun ⟨h1, _⟩ => h1
theorem XK.old {w : World} (h : BRow w x bs) (hb : Below w.heap.size w wx) (h1 : w.heap.size ≤ p1) (h2 : w.heap.size ≤ p2) (h3 : w.heap.size ≤ b) : XK p1 p2 b wx x bs :=
  h.imp id fun r => ⟨r.ext hb, fun k e => by have := r.own_lt e; omega⟩
theorem XK.done (h : XK p1 p2 b wx x bs) (u2 u3 u6 : Value) (cs cs' : Array Value) : BRow (((((wx.setCell ⟨b, 2, none⟩ u2).setCell ⟨b, 3, none⟩ u3).setCell ⟨b, 6, none⟩ u6).setRow p1 cs).setRow p2 cs') x bs :=
  XK.br (((h.touch (.inr (.inr rfl)) ((((Touch.refl b wx).setCell 2 u2).setCell 3 u3).setCell 6 u6)).touch (.inl rfl) ((Touch.refl p1 _).setRow cs)).touch (.inr (.inl rfl)) ((Touch.refl p2 _).setRow cs'))
end
theorem grid_row (w : World) (labels : Int) (b : Nat) : BRow (((w.setCell ⟨b, 4, none⟩ (.int .i64 labels)).setCell ⟨b, 5, none⟩ (.slice (some ⟨w.heap.size, 0, none⟩) 1 1)).alloc (.cells #[.int .i64 0, .int .i64 0, .int .i64 65535, .int .i64 65535] 63)) (.slice (some ⟨w.heap.size, 0, none⟩) 1 1) [Ru.grid] := by
  refine .inr ⟨rfl, .inr ⟨w.heap.size, 0, 1, rfl, Nat.le_refl _, by simp [World.setCell], fun j u hj => ?_⟩⟩
  have hB := Blk.newAt (w := (w.setCell ⟨b, 4, none⟩ (.int .i64 labels)).setCell ⟨b, 5, none⟩ (.slice (some ⟨w.heap.size, 0, none⟩) 1 1)) (k := w.heap.size) (by simp [World.setCell]) #[.int .i64 0, .int .i64 0, .int .i64 65535, .int .i64 65535] 63
  rw [Nat.zero_add]
  exact hB.cell j (by rw [← hj]; simp [boxesCells, boxCells, Ru.grid])
theorem arr_lo (r : Ru.Rule) (x : Value) (n : Int) : (ruleArr r x).setIfInBounds 2 (.int .i64 n) = ruleArr { r with lo := n } x := by simp [ruleArr]
theorem arr_hi (r : Ru.Rule) (x : Value) (n : Int) : (ruleArr r x).setIfInBounds 3 (.int .i64 n) = ruleArr { r with hi := n } x := by simp [ruleArr]
theorem arr_zoom (r : Ru.Rule) (x : Value) (n : Int) : (ruleArr r x).setIfInBounds 6 (.int .i64 n) = ruleArr { r with zoom := n } x := by simp [ruleArr]
theorem RlS.three {w wx : World} {d : Po.Decl} {xd x : Value} {p1 p2 b : Nat} {r : Ru.Rule} (h : RlS w d xd p1 p2 b r x wx) (lo hi zoom : Int) : RlS w d xd p1 p2 b { r with lo := lo, hi := hi, zoom := zoom } x (((wx.setCell ⟨b, 2, none⟩ (.int .i64 lo)).setCell ⟨b, 3, none⟩ (.int .i64 hi)).setCell ⟨b, 6, none⟩ (.int .i64 zoom)) :=
  ((h.set 2 (.int .i64 lo) _ x (arr_lo r x lo)).set 3 (.int .i64 hi) _ x (arr_hi _ x hi)).set 6 (.int .i64 zoom) _ x (arr_zoom _ x zoom)
/-- whose boxes a rule has: what came in, or a block of the call's own -/
def BoxOwn (x : Value) (bs : List Po.Box) (B0 B1 : Nat) : Prop := bs = [] ∨ ∀ k, x.ownBlock = some k → k < B0 ∨ B1 ≤ k
def RulePost (ahead : List Po.Decl) (d : Po.Decl) (n boxes : Int) (B0 B1 : Nat) (w' : World) (e : Ending) : Prop :=
  match Ru.rrule ahead d n boxes with
  | .ok r => ∃ x, e = .returned (.tuple #[.agg (ruleArr r x), .agg #[.int .i64 0, .int .i64 0, .int .i64 0]]) ∧ BRow w' x r.boxes ∧ BoxOwn x r.boxes B0 B1
  | .error (er, l, c) => ∃ r xp xl xc, e = .returned (.tuple #[.agg (ruleArr r (.slice xp xl xc)), .agg #[.int .i64 er, .int .i64 l, .int .i64 c]]) ∧ er ≠ 0
theorem rulS {w : World} {b : Nat} {r : Ru.Rule} {v : Value} {t : TypeId} (h : Blk w b (ruleArr r v) t) : w.cell? ⟨b, 0, none⟩ = some (.int .i64 r.kind) ∧ w.cell? ⟨b, 1, none⟩ = some (.int .i64 r.roles) ∧ w.cell? ⟨b, 2, none⟩ = some (.int .i64 r.lo) ∧ w.cell? ⟨b, 3, none⟩ = some (.int .i64 r.hi) ∧
    w.cell? ⟨b, 4, none⟩ = some (.int .i64 r.labels) ∧ w.cell? ⟨b, 5, none⟩ = some v ∧ w.cell? ⟨b, 6, none⟩ = some (.int .i64 r.zoom) :=
  ⟨h.cell 0 rfl, h.cell 1 rfl, h.cell 2 rfl, h.cell 3 rfl, h.cell 4 rfl, h.cell 5 rfl, h.cell 6 rfl⟩

set_option maxRecDepth 100000 in
set_option maxHeartbeats 4000000 in
theorem rlrule_any {w0 w : World} {v : Value} {l : List Po.Decl} (d : Po.Decl) (xd : Value) (n boxes : Int) (h : DSl w0 v l) (hw0 : Below w0.heap.size w0 w) (hn : l.length ≤ 140737488355328) (hsm : ∀ d ∈ l, DSmall d) (hb : 0 ≤ boxes ∧ boxes ≤ 1000) :
    Calls Tryz.prog 17 #[v, .agg (declCells d xd), .int .i64 n, .int .i64 boxes] w fun e w' => RulePost l d n boxes w0.heap.size w.heap.size w' e ∧ Below w.heap.size w w' := by
  obtain ⟨hb0, hb1000⟩ := hb
  have y0 : (declCells d xd)[0]? = some (.int .i64 d.kind) := rfl
  have z1 := balloc w (.cells (declCells d xd) 39)
  have z2 := balloc (w.alloc (.cells (declCells d xd) 39)) (.cells (ruleArr ⟨0, 0, 0, 0, 0, [], 0⟩ (.slice none 0 0)) 52)
  have z3 := balloc ((w.alloc (.cells (declCells d xd) 39)).alloc (.cells (ruleArr ⟨0, 0, 0, 0, 0, [], 0⟩ (.slice none 0 0)) 52)) (.cells #[.int .i64 0, .int .i64 0, .int .i64 0] 27)
  have z4 := balloc (((w.alloc (.cells (declCells d xd) 39)).alloc (.cells (ruleArr ⟨0, 0, 0, 0, 0, [], 0⟩ (.slice none 0 0)) 52)).alloc (.cells #[.int .i64 0, .int .i64 0, .int .i64 0] 27)) (.cells (ruleArr ⟨d.kind, 0, 0, 0, 0, [], 0⟩ (.slice none 0 0)) 52)
  have S0 := hid (show RlS w d xd (w.heap.size + 1) (w.heap.size + 1 + 1) (w.heap.size + 1 + 1 + 1) ⟨d.kind, 0, 0, 0, 0, [], 0⟩ (.slice none 0 0) _ from
    ⟨(((Blk.new w _ _).ext z2).ext z3).ext z4, ((Blk.newAt (by simp) _ _).ext z3).ext z4, (Blk.newAt (by simp) _ _).ext z4, Blk.newAt (by simp) _ _, bthen (bthen (bthen z1 z2) z3) z4, ⟨by omega, by omega, by omega⟩⟩)
  have h0 := hid h
  have W0 := hid hw0
  have hsz0 := hw0.size
  clear hw0
  have hsm0 := hid hsm
  clear z1 z2 z3 z4 h hsm
  unfold ruleArr at S0
  simp only at S0
  go_enter Tryz.func17, Tryz.ntmps17
  go_upto_region 2 with (fail)
  generalize w.heap.size + 1 = p1 at *
  generalize p1 + 1 = p2 at *
  generalize p2 + 1 = b at *
  generalize hW : ((((w.alloc (.cells (declCells d xd) 39)).alloc _).alloc _).alloc _) = wx at *
  obtain ⟨r, hr0⟩ : ∃ r : Ru.Rule, r = ⟨d.kind, 0, 0, 0, 0, [], 0⟩ := ⟨_, rfl⟩
  obtain ⟨xp, xl, xc, hx0⟩ : ∃ (xp : Option Addr) (xl xc : Nat), (Value.slice none 0 0) = Value.slice xp xl xc := ⟨_, _, _, rfl⟩
  rw [← hr0, hx0] at S0
  have hr := hid hr0
  have hx := hid hx0
  clear hW y0 hr0 hx0
  by_cases hL : 32 ≤ n
  · have he : Hid (Ru.rrule l d n boxes = .error (2, d.line, d.col)) := hid (by unfold Ru.rrule; rw [if_pos hL])
    have e1 : wx.cell? ⟨w.heap.size, 22, none⟩ = some (.int .i64 d.line) := S0.out.dec.cell 22 rfl
    have e2 : wx.cell? ⟨w.heap.size, 22 + 1, none⟩ = some (.int .i64 d.col) := S0.out.dec.cell 23 rfl
    generalize d.line = L at *
    generalize d.col = C at *
    obtain ⟨r0, r1, r2_, r3, r4, r5, r6⟩ := rbS S0.out.rul
    have ho := S0.out.lt
    have n1 : p1 ≠ p2 := by omega
    have n2 : p2 ≠ p1 := by omega
    have n3 : b ≠ p1 := by omega
    have n4 : b ≠ p2 := by omega
    have n5 : w.heap.size ≠ p1 := by omega
    have n6 : w.heap.size ≠ p2 := by omega
    have rlt := S0.out.res.lt
    have flt := S0.out.flt.lt
    have rfr := S0.out.res.free
    have ffr := S0.out.flt.free
    obtain ⟨k0, k1, k2, k3, k4, k5, k6⟩ := rulS S0.out.res
    obtain ⟨f0, f1, f2, _, _⟩ := S0.out.flt.three
    go_wp2_with fail
    go_region_held3 (fun w' => w'.cell? ⟨b, 0, none⟩ = some (.int .i64 r.kind) ∧ w'.cell? ⟨b, 1, none⟩ = some (.int .i64 r.roles) ∧ w'.cell? ⟨b, 1 + 1, none⟩ = some (.int .i64 r.lo) ∧ w'.cell? ⟨b, 1 + 1 + 1, none⟩ = some (.int .i64 r.hi) ∧ w'.cell? ⟨b, 1 + 1 + 1 + 1, none⟩ = some (.int .i64 r.labels) ∧ w'.cell? ⟨b, 1 + 1 + 1 + 1 + 1, none⟩ = some (.slice xp xl xc) ∧ w'.cell? ⟨b, 1 + 1 + 1 + 1 + 1 + 1, none⟩ = some (.int .i64 r.zoom) ∧ w'.cell? ⟨w.heap.size, 22, none⟩ = some (.int .i64 L) ∧ w'.cell? ⟨w.heap.size, 22 + 1, none⟩ = some (.int .i64 C)) (first | with_reducible assumption | (refine ⟨?_, ?_, ?_, ?_, ?_, ?_, ?_, ?_, ?_⟩ <;> (simp only [far n3, far n4, far n5, far n6, drewc]; assumption)) | go_keep) (first | fail)
    go_wp2_with fail
    obtain ⟨g1, g2, g3⟩ := S0.out.fail (.int .i64 2) (.int .i64 L) (.int .i64 C)
    refine bodyPost_ret (v := .tuple #[.agg (ruleArr r (.slice xp xl xc)), .agg #[.int .i64 2, .int .i64 L, .int .i64 C]]) (results_blk2 (p := 8) (q := 9) (ty := 52) (tz := 27) rfl _ _ p1 52 _ p2 27 _ rfl rfl g1 g2 Tryz.underlying52 rfl (by kernel_rfl) Tryz.underlying27 rfl (by kernel_rfl)) rfl ⟨?_, g3⟩
    unfold RulePost
    rw [he.out]
    exact ⟨r, _, _, _, rfl, by decide⟩
  have he0 := hid (show Ru.rrule l d n boxes = _ from by unfold Ru.rrule; rw [if_neg hL])
  go_wp2_with (first | (refine wpList_load_at rfl 37 (.tmp 26) rfl 27 rfl w.heap.size (4) (whoArr d.role) (range_role S0.out.dec) rfl Tryz.underlying37 rfl (by kernel_rfl) ?_))
  refine (rsum_any 1 d.role (h0.out.ext (bthen W0.out S0.out.bel)) hn).mono ?_
  rintro en w1 ⟨hp, hb1⟩
  have S1 := hid (S0.out.ext hb1)
  clear hb1 S0
  unfold SumPost at hp
  cases hs1 : Ru.rsum l 1 d.role with
  | error er =>
    rw [hs1] at hp he0
    subst hp
    have he := hid he0.out
    have hne := hid (rsum_ne hs1)
    have hne1 : (er != 0) = true := by rw [bne_iff_ne]; exact hne.out
    clear hs1 he0
    have e1 : w1.cell? ⟨w.heap.size, 4 + 3, none⟩ = some (.int .i64 d.role.line) := S1.out.dec.cell 7 rfl
    have e2 : w1.cell? ⟨w.heap.size, 4 + 3 + 1, none⟩ = some (.int .i64 d.role.col) := S1.out.dec.cell 8 rfl
    generalize d.role.line = L at *
    generalize d.role.col = C at *
    obtain ⟨r0, r1, r2_, r3, r4, r5, r6⟩ := rbS S1.out.rul
    have ho := S1.out.lt
    have n1 : p1 ≠ p2 := by omega
    have n2 : p2 ≠ p1 := by omega
    have n3 : b ≠ p1 := by omega
    have n4 : b ≠ p2 := by omega
    have n5 : w.heap.size ≠ p1 := by omega
    have n6 : w.heap.size ≠ p2 := by omega
    have rlt := S1.out.res.lt
    have flt := S1.out.flt.lt
    have rfr := S1.out.res.free
    have ffr := S1.out.flt.free
    obtain ⟨k0, k1, k2, k3, k4, k5, k6⟩ := rulS S1.out.res
    obtain ⟨f0, f1, f2, _, _⟩ := S1.out.flt.three
    go_wp2_with fail
    go_region_held3 (fun w' => w'.cell? ⟨b, 0, none⟩ = some (.int .i64 r.kind) ∧ w'.cell? ⟨b, 1, none⟩ = some (.int .i64 r.roles) ∧ w'.cell? ⟨b, 1 + 1, none⟩ = some (.int .i64 r.lo) ∧ w'.cell? ⟨b, 1 + 1 + 1, none⟩ = some (.int .i64 r.hi) ∧ w'.cell? ⟨b, 1 + 1 + 1 + 1, none⟩ = some (.int .i64 r.labels) ∧ w'.cell? ⟨b, 1 + 1 + 1 + 1 + 1, none⟩ = some (.slice xp xl xc) ∧ w'.cell? ⟨b, 1 + 1 + 1 + 1 + 1 + 1, none⟩ = some (.int .i64 r.zoom) ∧ w'.cell? ⟨w.heap.size, 4 + 3, none⟩ = some (.int .i64 L) ∧ w'.cell? ⟨w.heap.size, 4 + 3 + 1, none⟩ = some (.int .i64 C)) (first | with_reducible assumption | (refine ⟨?_, ?_, ?_, ?_, ?_, ?_, ?_, ?_, ?_⟩ <;> (simp only [far n3, far n4, far n5, far n6, drewc]; assumption)) | go_keep) (first | fail)
    go_wp2_with fail
    obtain ⟨g1, g2, g3⟩ := S1.out.fail (.int .i64 er) (.int .i64 L) (.int .i64 C)
    refine bodyPost_ret (v := .tuple #[.agg (ruleArr r (.slice xp xl xc)), .agg #[.int .i64 er, .int .i64 L, .int .i64 C]]) (results_blk2 (p := 8) (q := 9) (ty := 52) (tz := 27) rfl _ _ p1 52 _ p2 27 _ rfl rfl g1 g2 Tryz.underlying52 rfl (by kernel_rfl) Tryz.underlying27 rfl (by kernel_rfl)) rfl ⟨?_, g3⟩
    unfold RulePost
    rw [he.out]
    exact ⟨r, _, _, _, rfl, hne.out⟩
  | ok roles =>
  rw [hs1] at hp he0
  subst hp
  simp only at he0
  clear hs1
  have hcell1 : Hid (∀ o, w1.frozen? ⟨b, o, none⟩ = false) := hid S1.out.rul.free
  obtain ⟨q0, q1, q2, q3, q4, q5, q6⟩ := rulS S1.out.rul
  have qf := S1.out.rul.free
  have qlt := S1.out.rul.lt
  have y0 : w1.cell? ⟨w.heap.size, 0, none⟩ = some (.int .i64 d.kind) := S1.out.dec.cell 0 rfl
  have ho := S1.out.lt
  have nb : w.heap.size ≠ b := by omega
  have S2 := hid (S1.out.set 1 (.int .i64 roles) { r with roles := roles } (.slice xp xl xc) rfl)
  by_cases h6 : d.kind = 6
  · have hb6 : (d.kind == 6) = true := beq_iff_eq.2 h6
    have he := hid (show Ru.rrule l d n boxes = .ok ⟨d.kind, roles, 0, 0, 0, [], 0⟩ by rw [he0.out, if_pos h6])
    clear he0 S1 hcell1
    go_wp2_with (first | (refine wpList_load_blk rfl 52 (.tmp 10) rfl 44 rfl b 52 (ruleArr { r with roles := roles } (.slice xp xl xc)) (S2.out.rul) rfl Tryz.underlying52 rfl (by kernel_rfl) ?_) | (refine wpList_store_blk rfl 52 (.tmp 8) (.tmp 44) rfl rfl p1 52 _ (ruleArr { r with roles := roles } (.slice xp xl xc)) (S2.out.res) rfl rfl (by kernel_rfl) rfl (ruleArr_one _ rfl) ?_) | (refine wpList_store_blk rfl 27 (.tmp 9) (.tmp 45) rfl rfl p2 27 _ (#[.int .i64 0, .int .i64 0, .int .i64 0]) (S2.out.flt1 _) rfl rfl (by kernel_rfl) rfl (zf_one) ?_))
    obtain ⟨g1, g2, g3⟩ := S2.out.done
    refine bodyPost_ret (v := .tuple #[.agg (ruleArr { r with roles := roles } (.slice xp xl xc)), .agg #[.int .i64 0, .int .i64 0, .int .i64 0]]) (results_blk2 (p := 8) (q := 9) (ty := 52) (tz := 27) rfl _ _ p1 52 _ p2 27 _ rfl rfl g1 g2 Tryz.underlying52 rfl (by kernel_rfl) Tryz.underlying27 rfl (by kernel_rfl)) rfl ⟨?_, g3⟩
    unfold RulePost
    rw [he.out]
    rw [hr.out, ← hx.out]
    exact ⟨.slice none 0 0, rfl, .inl ⟨_, _, rfl, rfl⟩, .inl rfl⟩
  have hb6 : (d.kind == 6) = false := beq_eq_false_iff_ne.2 h6
  rw [if_neg h6] at he0
  go_upto_region 10 with (fail)
  generalize w1.setCell ⟨b, 1, none⟩ (.int .i64 roles) = w2 at *
  obtain ⟨ra, hra⟩ : ∃ ra : Ru.Rule, { r with roles := roles } = ra := ⟨_, rfl⟩
  rw [hra] at S2
  have hrA := hid (show ra = ⟨d.kind, roles, 0, 0, 0, [], 0⟩ by rw [← hra, hr.out])
  clear hra hr hb6 h6 S1 y0 q0 q1 q2 q3 q4 q5 q6 qf qlt hcell1 nb ho hx
  have y9 : w2.cell? ⟨w.heap.size, 9, none⟩ = some (.int .i64 d.lo) := S2.out.dec.cell 9 rfl
  have y10 : w2.cell? ⟨w.heap.size, 10, none⟩ = some (.int .i64 d.hi) := S2.out.dec.cell 10 rfl
  by_cases ha : d.hi < d.lo
  · have he : Hid (Ru.rrule l d n boxes = .error (33, d.line, d.col)) := hid (by rw [he0.out, if_pos (.inl ha)])
    clear he0
    have e1 : w2.cell? ⟨w.heap.size, 22, none⟩ = some (.int .i64 d.line) := S2.out.dec.cell 22 rfl
    have e2 : w2.cell? ⟨w.heap.size, 22 + 1, none⟩ = some (.int .i64 d.col) := S2.out.dec.cell 23 rfl
    generalize d.line = L at *
    generalize d.col = C at *
    obtain ⟨r0, r1, r2_, r3, r4, r5, r6⟩ := rbS S2.out.rul
    have ho := S2.out.lt
    have n1 : p1 ≠ p2 := by omega
    have n2 : p2 ≠ p1 := by omega
    have n3 : b ≠ p1 := by omega
    have n4 : b ≠ p2 := by omega
    have n5 : w.heap.size ≠ p1 := by omega
    have n6 : w.heap.size ≠ p2 := by omega
    have rlt := S2.out.res.lt
    have flt := S2.out.flt.lt
    have rfr := S2.out.res.free
    have ffr := S2.out.flt.free
    obtain ⟨k0, k1, k2, k3, k4, k5, k6⟩ := rulS S2.out.res
    obtain ⟨f0, f1, f2, _, _⟩ := S2.out.flt.three
    go_wp2_with fail
    go_region_held3 (fun w' => w'.cell? ⟨b, 0, none⟩ = some (.int .i64 ra.kind) ∧ w'.cell? ⟨b, 1, none⟩ = some (.int .i64 ra.roles) ∧ w'.cell? ⟨b, 1 + 1, none⟩ = some (.int .i64 ra.lo) ∧ w'.cell? ⟨b, 1 + 1 + 1, none⟩ = some (.int .i64 ra.hi) ∧ w'.cell? ⟨b, 1 + 1 + 1 + 1, none⟩ = some (.int .i64 ra.labels) ∧ w'.cell? ⟨b, 1 + 1 + 1 + 1 + 1, none⟩ = some (.slice xp xl xc) ∧ w'.cell? ⟨b, 1 + 1 + 1 + 1 + 1 + 1, none⟩ = some (.int .i64 ra.zoom) ∧ w'.cell? ⟨w.heap.size, 22, none⟩ = some (.int .i64 L) ∧ w'.cell? ⟨w.heap.size, 22 + 1, none⟩ = some (.int .i64 C)) (first | with_reducible assumption | (refine ⟨?_, ?_, ?_, ?_, ?_, ?_, ?_, ?_, ?_⟩ <;> (simp only [far n3, far n4, far n5, far n6, drewc]; assumption)) | go_keep) (first | fail)
    go_wp2_with fail
    obtain ⟨g1, g2, g3⟩ := S2.out.fail (.int .i64 33) (.int .i64 L) (.int .i64 C)
    refine bodyPost_ret (v := .tuple #[.agg (ruleArr ra (.slice xp xl xc)), .agg #[.int .i64 33, .int .i64 L, .int .i64 C]]) (results_blk2 (p := 8) (q := 9) (ty := 52) (tz := 27) rfl _ _ p1 52 _ p2 27 _ rfl rfl g1 g2 Tryz.underlying52 rfl (by kernel_rfl) Tryz.underlying27 rfl (by kernel_rfl)) rfl ⟨?_, g3⟩
    unfold RulePost
    rw [he.out]
    exact ⟨ra, _, _, _, rfl, by decide⟩
  by_cases hb7 : 7 < d.hi
  · have he : Hid (Ru.rrule l d n boxes = .error (33, d.line, d.col)) := hid (by rw [he0.out, if_pos (.inr hb7)])
    clear he0
    have e1 : w2.cell? ⟨w.heap.size, 22, none⟩ = some (.int .i64 d.line) := S2.out.dec.cell 22 rfl
    have e2 : w2.cell? ⟨w.heap.size, 22 + 1, none⟩ = some (.int .i64 d.col) := S2.out.dec.cell 23 rfl
    generalize d.line = L at *
    generalize d.col = C at *
    obtain ⟨r0, r1, r2_, r3, r4, r5, r6⟩ := rbS S2.out.rul
    have ho := S2.out.lt
    have n1 : p1 ≠ p2 := by omega
    have n2 : p2 ≠ p1 := by omega
    have n3 : b ≠ p1 := by omega
    have n4 : b ≠ p2 := by omega
    have n5 : w.heap.size ≠ p1 := by omega
    have n6 : w.heap.size ≠ p2 := by omega
    have rlt := S2.out.res.lt
    have flt := S2.out.flt.lt
    have rfr := S2.out.res.free
    have ffr := S2.out.flt.free
    obtain ⟨k0, k1, k2, k3, k4, k5, k6⟩ := rulS S2.out.res
    obtain ⟨f0, f1, f2, _, _⟩ := S2.out.flt.three
    go_wp2_with fail
    go_region_held3 (fun w' => w'.cell? ⟨b, 0, none⟩ = some (.int .i64 ra.kind) ∧ w'.cell? ⟨b, 1, none⟩ = some (.int .i64 ra.roles) ∧ w'.cell? ⟨b, 1 + 1, none⟩ = some (.int .i64 ra.lo) ∧ w'.cell? ⟨b, 1 + 1 + 1, none⟩ = some (.int .i64 ra.hi) ∧ w'.cell? ⟨b, 1 + 1 + 1 + 1, none⟩ = some (.int .i64 ra.labels) ∧ w'.cell? ⟨b, 1 + 1 + 1 + 1 + 1, none⟩ = some (.slice xp xl xc) ∧ w'.cell? ⟨b, 1 + 1 + 1 + 1 + 1 + 1, none⟩ = some (.int .i64 ra.zoom) ∧ w'.cell? ⟨w.heap.size, 22, none⟩ = some (.int .i64 L) ∧ w'.cell? ⟨w.heap.size, 22 + 1, none⟩ = some (.int .i64 C)) (first | with_reducible assumption | (refine ⟨?_, ?_, ?_, ?_, ?_, ?_, ?_, ?_, ?_⟩ <;> (simp only [far n3, far n4, far n5, far n6, drewc]; assumption)) | go_keep) (first | fail)
    go_wp2_with fail
    obtain ⟨g1, g2, g3⟩ := S2.out.fail (.int .i64 33) (.int .i64 L) (.int .i64 C)
    refine bodyPost_ret (v := .tuple #[.agg (ruleArr ra (.slice xp xl xc)), .agg #[.int .i64 33, .int .i64 L, .int .i64 C]]) (results_blk2 (p := 8) (q := 9) (ty := 52) (tz := 27) rfl _ _ p1 52 _ p2 27 _ rfl rfl g1 g2 Tryz.underlying52 rfl (by kernel_rfl) Tryz.underlying27 rfl (by kernel_rfl)) rfl ⟨?_, g3⟩
    unfold RulePost
    rw [he.out]
    exact ⟨ra, _, _, _, rfl, by decide⟩
  rw [if_neg (fun h => h.elim ha hb7)] at he0
  go_wp2_with (first | (refine wpList_load_at rfl 37 (.tmp 62) rfl 63 rfl w.heap.size (11) (whoArr d.label) (range_label S2.out.dec) rfl Tryz.underlying37 rfl (by kernel_rfl) ?_))
  refine (rsum_any 2 d.label (h0.out.ext (bthen W0.out S2.out.bel)) hn).mono ?_
  rintro en w3 ⟨hp, hb3⟩
  have S3 := hid (S2.out.ext hb3)
  clear hb3 S2 y9 y10
  unfold SumPost at hp
  cases hs1 : Ru.rsum l 2 d.label with
  | error er =>
    rw [hs1] at hp he0
    subst hp
    have he := hid he0.out
    have hne := hid (rsum_ne hs1)
    have hne1 : (er != 0) = true := by rw [bne_iff_ne]; exact hne.out
    clear hs1 he0
    have e1 : w3.cell? ⟨w.heap.size, 11 + 3, none⟩ = some (.int .i64 d.label.line) := S3.out.dec.cell 14 rfl
    have e2 : w3.cell? ⟨w.heap.size, 11 + 3 + 1, none⟩ = some (.int .i64 d.label.col) := S3.out.dec.cell 15 rfl
    generalize d.label.line = L at *
    generalize d.label.col = C at *
    obtain ⟨r0, r1, r2_, r3, r4, r5, r6⟩ := rbS S3.out.rul
    have ho := S3.out.lt
    have n1 : p1 ≠ p2 := by omega
    have n2 : p2 ≠ p1 := by omega
    have n3 : b ≠ p1 := by omega
    have n4 : b ≠ p2 := by omega
    have n5 : w.heap.size ≠ p1 := by omega
    have n6 : w.heap.size ≠ p2 := by omega
    have rlt := S3.out.res.lt
    have flt := S3.out.flt.lt
    have rfr := S3.out.res.free
    have ffr := S3.out.flt.free
    obtain ⟨k0, k1, k2, k3, k4, k5, k6⟩ := rulS S3.out.res
    obtain ⟨f0, f1, f2, _, _⟩ := S3.out.flt.three
    go_wp2_with fail
    go_region_held3 (fun w' => w'.cell? ⟨b, 0, none⟩ = some (.int .i64 ra.kind) ∧ w'.cell? ⟨b, 1, none⟩ = some (.int .i64 ra.roles) ∧ w'.cell? ⟨b, 1 + 1, none⟩ = some (.int .i64 ra.lo) ∧ w'.cell? ⟨b, 1 + 1 + 1, none⟩ = some (.int .i64 ra.hi) ∧ w'.cell? ⟨b, 1 + 1 + 1 + 1, none⟩ = some (.int .i64 ra.labels) ∧ w'.cell? ⟨b, 1 + 1 + 1 + 1 + 1, none⟩ = some (.slice xp xl xc) ∧ w'.cell? ⟨b, 1 + 1 + 1 + 1 + 1 + 1, none⟩ = some (.int .i64 ra.zoom) ∧ w'.cell? ⟨w.heap.size, 11 + 3, none⟩ = some (.int .i64 L) ∧ w'.cell? ⟨w.heap.size, 11 + 3 + 1, none⟩ = some (.int .i64 C)) (first | with_reducible assumption | (refine ⟨?_, ?_, ?_, ?_, ?_, ?_, ?_, ?_, ?_⟩ <;> (simp only [far n3, far n4, far n5, far n6, drewc]; assumption)) | go_keep) (first | fail)
    go_wp2_with fail
    obtain ⟨g1, g2, g3⟩ := S3.out.fail (.int .i64 er) (.int .i64 L) (.int .i64 C)
    refine bodyPost_ret (v := .tuple #[.agg (ruleArr ra (.slice xp xl xc)), .agg #[.int .i64 er, .int .i64 L, .int .i64 C]]) (results_blk2 (p := 8) (q := 9) (ty := 52) (tz := 27) rfl _ _ p1 52 _ p2 27 _ rfl rfl g1 g2 Tryz.underlying52 rfl (by kernel_rfl) Tryz.underlying27 rfl (by kernel_rfl)) rfl ⟨?_, g3⟩
    unfold RulePost
    rw [he.out]
    exact ⟨ra, _, _, _, rfl, hne.out⟩
  | ok labels =>
  rw [hs1] at hp he0
  subst hp
  simp only at he0
  clear hs1
  obtain ⟨q0, q1, q2, q3, q4, q5, q6⟩ := rulS S3.out.rul
  have qf := S3.out.rul.free
  have qlt := S3.out.rul.lt
  have ho := S3.out.lt
  have zg := balloc ((w3.setCell ⟨b, 4, none⟩ (.int .i64 labels)).setCell ⟨b, 5, none⟩ (.slice (some ⟨w3.heap.size, 0, none⟩) 1 1)) (.cells #[.int .i64 0, .int .i64 0, .int .i64 65535, .int .i64 65535] 63)
  have hbl := S3.out.bel.size
  have S4 := hid (((S3.out.set 4 (.int .i64 labels) { ra with labels := labels } (.slice xp xl xc) rfl).set 5 (.slice (some ⟨w3.heap.size, 0, none⟩) 1 1) { ra with labels := labels } (.slice (some ⟨w3.heap.size, 0, none⟩) 1 1) rfl).ext zg)
  have G4 := hid (grid_row w3 labels b)
  go_upto_region 17 with (fail)
  generalize (((w3.setCell ⟨b, 4, none⟩ (.int .i64 labels)).setCell ⟨b, 5, none⟩ (.slice (some ⟨w3.heap.size, 0, none⟩) 1 1)).alloc (.cells #[.int .i64 0, .int .i64 0, .int .i64 65535, .int .i64 65535] 63)) = w4 at *
  obtain ⟨rb, hrb⟩ : ∃ rb : Ru.Rule, { ra with labels := labels } = rb := ⟨_, rfl⟩
  rw [hrb] at S4
  have hrB := hid (show rb = ⟨d.kind, roles, 0, 0, labels, [], 0⟩ by rw [← hrb, hrA.out])
  clear hrb hrA S3 zg hbl
  have hgb := hid (show b < w3.heap.size from qlt)
  generalize w3.heap.size = gb at *
  clear q0 q1 q2 q3 q4 q5 q6 qf qlt xp xl xc
  have XX0 := hid (show XK p1 p2 b w4 _ _ from .inr ⟨G4.out.pos (by decide), fun k e => by have := hgb.out; simp [Value.ownBlock] at e; omega⟩)
  have XO0 := hid (show BoxOwn (.slice (some ⟨gb, 0, none⟩) 1 1) [Ru.grid] w0.heap.size w.heap.size from .inr (fun k e => by have := hgb.out; have := S4.out.lt; simp [Value.ownBlock] at e; omega))
  obtain ⟨xp, xl, xc, hx0⟩ : ∃ (xp : Option Addr) (xl xc : Nat), Value.slice (some ⟨gb, 0, none⟩) 1 1 = Value.slice xp xl xc := ⟨_, _, _, rfl⟩
  have hxl0 : xl = 1 := by cases hx0; rfl
  rw [hx0] at S4 XX0 XO0
  clear hx0 G4
  cases hany : d.place.any with
  | true =>
    have y16 : w4.cell? ⟨w.heap.size, 16, none⟩ = some (.bool true) := by rw [← hany]; exact S4.out.dec.cell 16 rfl
    have hw := hid (show Ru.rwhere l d.place = .ok [Ru.grid] by unfold Ru.rwhere; rw [hany]; rfl)
    rw [hw.out] at he0
    simp only at he0
    obtain ⟨bs, hbs⟩ : ∃ bs : List Po.Box, [Ru.grid] = bs := ⟨_, rfl⟩
    have hxl := hid (show bs.length = xl by rw [← hbs, hxl0]; rfl)
    have hxs : xl ≤ 140737488355328 := by omega
    rw [hbs] at XX0 he0 XO0
    have XX := hid XX0.out
    have XO := hid XO0.out
    clear XX0 XO0 hw hbs hxl0 hany
    have q5 : w4.cell? ⟨b, 5, none⟩ = some (.slice xp xl xc) := S4.out.rul.cell 5 rfl
    have y21 : w4.cell? ⟨w.heap.size, 21, none⟩ = some (.int .i64 d.zoom) := S4.out.dec.cell 21 rfl
    try rw [hxl.out] at he0
    by_cases hl : 32 < boxes + (xl : Int)
    · have he : Hid (Ru.rrule l d n boxes = .error (2, d.line, d.col)) := hid (by rw [he0.out, if_pos hl])
      clear he0
      have e1 : w4.cell? ⟨w.heap.size, 22, none⟩ = some (.int .i64 d.line) := S4.out.dec.cell 22 rfl
      have e2 : w4.cell? ⟨w.heap.size, 22 + 1, none⟩ = some (.int .i64 d.col) := S4.out.dec.cell 23 rfl
      generalize d.line = L at *
      generalize d.col = C at *
      obtain ⟨r0, r1, r2_, r3, r4, r5, r6⟩ := rbS S4.out.rul
      have ho := S4.out.lt
      have n1 : p1 ≠ p2 := by omega
      have n2 : p2 ≠ p1 := by omega
      have n3 : b ≠ p1 := by omega
      have n4 : b ≠ p2 := by omega
      have n5 : w.heap.size ≠ p1 := by omega
      have n6 : w.heap.size ≠ p2 := by omega
      have rlt := S4.out.res.lt
      have flt := S4.out.flt.lt
      have rfr := S4.out.res.free
      have ffr := S4.out.flt.free
      obtain ⟨k0, k1, k2, k3, k4, k5, k6⟩ := rulS S4.out.res
      obtain ⟨f0, f1, f2, _, _⟩ := S4.out.flt.three
      go_wp2_with fail
      go_region_held3 (fun w' => w'.cell? ⟨b, 0, none⟩ = some (.int .i64 rb.kind) ∧ w'.cell? ⟨b, 1, none⟩ = some (.int .i64 rb.roles) ∧ w'.cell? ⟨b, 1 + 1, none⟩ = some (.int .i64 rb.lo) ∧ w'.cell? ⟨b, 1 + 1 + 1, none⟩ = some (.int .i64 rb.hi) ∧ w'.cell? ⟨b, 1 + 1 + 1 + 1, none⟩ = some (.int .i64 rb.labels) ∧ w'.cell? ⟨b, 1 + 1 + 1 + 1 + 1, none⟩ = some (.slice xp xl xc) ∧ w'.cell? ⟨b, 1 + 1 + 1 + 1 + 1 + 1, none⟩ = some (.int .i64 rb.zoom) ∧ w'.cell? ⟨w.heap.size, 22, none⟩ = some (.int .i64 L) ∧ w'.cell? ⟨w.heap.size, 22 + 1, none⟩ = some (.int .i64 C)) (first | with_reducible assumption | (refine ⟨?_, ?_, ?_, ?_, ?_, ?_, ?_, ?_, ?_⟩ <;> (simp only [far n3, far n4, far n5, far n6, drewc]; assumption)) | go_keep) (first | fail)
      go_wp2_with fail
      obtain ⟨g1, g2, g3⟩ := S4.out.fail (.int .i64 2) (.int .i64 L) (.int .i64 C)
      refine bodyPost_ret (v := .tuple #[.agg (ruleArr rb (.slice xp xl xc)), .agg #[.int .i64 2, .int .i64 L, .int .i64 C]]) (results_blk2 (p := 8) (q := 9) (ty := 52) (tz := 27) rfl _ _ p1 52 _ p2 27 _ rfl rfl g1 g2 Tryz.underlying52 rfl (by kernel_rfl) Tryz.underlying27 rfl (by kernel_rfl)) rfl ⟨?_, g3⟩
      unfold RulePost
      rw [he.out]
      exact ⟨rb, _, _, _, rfl, by decide⟩
    rw [if_neg hl] at he0
    by_cases hz : 16 < d.zoom
    · have he : Hid (Ru.rrule l d n boxes = .error (33, d.line, d.col)) := hid (by rw [he0.out, if_pos hz])
      clear he0
      have e1 : w4.cell? ⟨w.heap.size, 22, none⟩ = some (.int .i64 d.line) := S4.out.dec.cell 22 rfl
      have e2 : w4.cell? ⟨w.heap.size, 22 + 1, none⟩ = some (.int .i64 d.col) := S4.out.dec.cell 23 rfl
      generalize d.line = L at *
      generalize d.col = C at *
      obtain ⟨r0, r1, r2_, r3, r4, r5, r6⟩ := rbS S4.out.rul
      have ho := S4.out.lt
      have n1 : p1 ≠ p2 := by omega
      have n2 : p2 ≠ p1 := by omega
      have n3 : b ≠ p1 := by omega
      have n4 : b ≠ p2 := by omega
      have n5 : w.heap.size ≠ p1 := by omega
      have n6 : w.heap.size ≠ p2 := by omega
      have rlt := S4.out.res.lt
      have flt := S4.out.flt.lt
      have rfr := S4.out.res.free
      have ffr := S4.out.flt.free
      obtain ⟨k0, k1, k2, k3, k4, k5, k6⟩ := rulS S4.out.res
      obtain ⟨f0, f1, f2, _, _⟩ := S4.out.flt.three
      go_wp2_with fail
      go_region_held3 (fun w' => w'.cell? ⟨b, 0, none⟩ = some (.int .i64 rb.kind) ∧ w'.cell? ⟨b, 1, none⟩ = some (.int .i64 rb.roles) ∧ w'.cell? ⟨b, 1 + 1, none⟩ = some (.int .i64 rb.lo) ∧ w'.cell? ⟨b, 1 + 1 + 1, none⟩ = some (.int .i64 rb.hi) ∧ w'.cell? ⟨b, 1 + 1 + 1 + 1, none⟩ = some (.int .i64 rb.labels) ∧ w'.cell? ⟨b, 1 + 1 + 1 + 1 + 1, none⟩ = some (.slice xp xl xc) ∧ w'.cell? ⟨b, 1 + 1 + 1 + 1 + 1 + 1, none⟩ = some (.int .i64 rb.zoom) ∧ w'.cell? ⟨w.heap.size, 22, none⟩ = some (.int .i64 L) ∧ w'.cell? ⟨w.heap.size, 22 + 1, none⟩ = some (.int .i64 C)) (first | with_reducible assumption | (refine ⟨?_, ?_, ?_, ?_, ?_, ?_, ?_, ?_, ?_⟩ <;> (simp only [far n3, far n4, far n5, far n6, drewc]; assumption)) | go_keep) (first | fail)
      go_wp2_with fail
      obtain ⟨g1, g2, g3⟩ := S4.out.fail (.int .i64 33) (.int .i64 L) (.int .i64 C)
      refine bodyPost_ret (v := .tuple #[.agg (ruleArr rb (.slice xp xl xc)), .agg #[.int .i64 33, .int .i64 L, .int .i64 C]]) (results_blk2 (p := 8) (q := 9) (ty := 52) (tz := 27) rfl _ _ p1 52 _ p2 27 _ rfl rfl g1 g2 Tryz.underlying52 rfl (by kernel_rfl) Tryz.underlying27 rfl (by kernel_rfl)) rfl ⟨?_, g3⟩
      unfold RulePost
      rw [he.out]
      exact ⟨rb, _, _, _, rfl, by decide⟩
    rw [if_neg hz] at he0
    have he := hid he0.out
    clear he0
    obtain ⟨q0, q1, q2, q3, q4, _, q6⟩ := rulS S4.out.rul
    have qf := S4.out.rul.free
    have qlt := S4.out.rul.lt
    have ho := S4.out.lt
    have nb : w.heap.size ≠ b := by omega
    have y9 : w4.cell? ⟨w.heap.size, 9, none⟩ = some (.int .i64 d.lo) := S4.out.dec.cell 9 rfl
    have y10 : w4.cell? ⟨w.heap.size, 10, none⟩ = some (.int .i64 d.hi) := S4.out.dec.cell 10 rfl
    have S7 := hid (S4.out.three d.lo d.hi d.zoom)
    have XF := hid (XX.out.done (.int .i64 d.lo) (.int .i64 d.hi) (.int .i64 d.zoom))
    go_upto_region 29 with (fail)
    generalize (((w4.setCell ⟨b, 2, none⟩ (.int .i64 d.lo)).setCell ⟨b, 3, none⟩ (.int .i64 d.hi)).setCell ⟨b, 6, none⟩ (.int .i64 d.zoom)) = wf at *
    go_wp2_with (first | (refine wpList_load_blk rfl 52 (.tmp 10) rfl 128 rfl b 52 (ruleArr { rb with lo := d.lo, hi := d.hi, zoom := d.zoom } (.slice xp xl xc)) (S7.out.rul) rfl Tryz.underlying52 rfl (by kernel_rfl) ?_) | (refine wpList_store_blk rfl 52 (.tmp 8) (.tmp 128) rfl rfl p1 52 _ (ruleArr { rb with lo := d.lo, hi := d.hi, zoom := d.zoom } (.slice xp xl xc)) (S7.out.res) rfl rfl (by kernel_rfl) rfl (ruleArr_one _ rfl) ?_) | (refine wpList_store_blk rfl 27 (.tmp 9) (.tmp 129) rfl rfl p2 27 _ (#[.int .i64 0, .int .i64 0, .int .i64 0]) (S7.out.flt1 _) rfl rfl (by kernel_rfl) rfl (zf_one) ?_))
    obtain ⟨g1, g2, g3⟩ := S7.out.done
    refine bodyPost_ret (v := .tuple #[.agg (ruleArr { rb with lo := d.lo, hi := d.hi, zoom := d.zoom } (.slice xp xl xc)), .agg #[.int .i64 0, .int .i64 0, .int .i64 0]]) (results_blk2 (p := 8) (q := 9) (ty := 52) (tz := 27) rfl _ _ p1 52 _ p2 27 _ rfl rfl g1 g2 Tryz.underlying52 rfl (by kernel_rfl) Tryz.underlying27 rfl (by kernel_rfl)) rfl ⟨?_, g3⟩
    unfold RulePost
    rw [he.out]
    exact ⟨.slice xp xl xc, by rw [hrB.out]; rfl, XF.out _ _, XO.out⟩
  | false =>
    have y16 : w4.cell? ⟨w.heap.size, 16, none⟩ = some (.bool false) := by rw [← hany]; exact S4.out.dec.cell 16 rfl
    have y17 : w4.cell? ⟨w.heap.size, 16 + 1, none⟩ = some (.string d.place.name) := S4.out.dec.cell 17 rfl
    clear XX0 XO0 hxl0
    go_wp2_with fail
    refine (declared_at 3 d.place.name h0.out (bthen W0.out S4.out.bel) hn).mono ?_
    rintro en w5 ⟨hp, hb5⟩
    unfold DeclaredPost at hp
    cases hdc : Ru.declared l 3 d.place.name with
    | none =>
      rw [hdc] at hp
      subst hp
      have hw := hid (show Ru.rwhere l d.place = .error 21 by unfold Ru.rwhere; rw [hany, hdc]; rfl)
      rw [hw.out] at he0
      simp only at he0
      have he := hid he0.out
      have S5 := hid ((S4.out.ext hb5).ext (balloc w5 (.cells (declCells Po.zeroDecl (.slice none 0 0)) 39)))
      clear hb5 hdc hw he0 hany y16 y17 S4
      go_upto_region 19 with (first | (refine wpList_store_new rfl 39 (.tmp 13) (.tmp 90) rfl rfl w5 39 _ (declCells Po.zeroDecl (.slice none 0 0)) rfl rfl rfl (by kernel_rfl) rfl (declCells_one _ rfl) ?_))
      generalize w5.alloc (.cells (declCells Po.zeroDecl (.slice none 0 0)) 39) = w6 at *
      have e1 : w6.cell? ⟨w.heap.size, 16 + 3, none⟩ = some (.int .i64 d.place.line) := S5.out.dec.cell 19 rfl
      have e2 : w6.cell? ⟨w.heap.size, 16 + 3 + 1, none⟩ = some (.int .i64 d.place.col) := S5.out.dec.cell 20 rfl
      generalize d.place.line = L at *
      generalize d.place.col = C at *
      obtain ⟨r0, r1, r2_, r3, r4, r5, r6⟩ := rbS S5.out.rul
      have ho := S5.out.lt
      have n1 : p1 ≠ p2 := by omega
      have n2 : p2 ≠ p1 := by omega
      have n3 : b ≠ p1 := by omega
      have n4 : b ≠ p2 := by omega
      have n5 : w.heap.size ≠ p1 := by omega
      have n6 : w.heap.size ≠ p2 := by omega
      have rlt := S5.out.res.lt
      have flt := S5.out.flt.lt
      have rfr := S5.out.res.free
      have ffr := S5.out.flt.free
      obtain ⟨k0, k1, k2, k3, k4, k5, k6⟩ := rulS S5.out.res
      obtain ⟨f0, f1, f2, _, _⟩ := S5.out.flt.three
      go_wp2_with fail
      go_region_held3 (fun w' => w'.cell? ⟨b, 0, none⟩ = some (.int .i64 rb.kind) ∧ w'.cell? ⟨b, 1, none⟩ = some (.int .i64 rb.roles) ∧ w'.cell? ⟨b, 1 + 1, none⟩ = some (.int .i64 rb.lo) ∧ w'.cell? ⟨b, 1 + 1 + 1, none⟩ = some (.int .i64 rb.hi) ∧ w'.cell? ⟨b, 1 + 1 + 1 + 1, none⟩ = some (.int .i64 rb.labels) ∧ w'.cell? ⟨b, 1 + 1 + 1 + 1 + 1, none⟩ = some (.slice xp xl xc) ∧ w'.cell? ⟨b, 1 + 1 + 1 + 1 + 1 + 1, none⟩ = some (.int .i64 rb.zoom) ∧ w'.cell? ⟨w.heap.size, 16 + 3, none⟩ = some (.int .i64 L) ∧ w'.cell? ⟨w.heap.size, 16 + 3 + 1, none⟩ = some (.int .i64 C)) (first | with_reducible assumption | (refine ⟨?_, ?_, ?_, ?_, ?_, ?_, ?_, ?_, ?_⟩ <;> (simp only [far n3, far n4, far n5, far n6, drewc]; assumption)) | go_keep) (first | fail)
      go_wp2_with fail
      obtain ⟨g1, g2, g3⟩ := S5.out.fail (.int .i64 21) (.int .i64 L) (.int .i64 C)
      refine bodyPost_ret (v := .tuple #[.agg (ruleArr rb (.slice xp xl xc)), .agg #[.int .i64 21, .int .i64 L, .int .i64 C]]) (results_blk2 (p := 8) (q := 9) (ty := 52) (tz := 27) rfl _ _ p1 52 _ p2 27 _ rfl rfl g1 g2 Tryz.underlying52 rfl (by kernel_rfl) Tryz.underlying27 rfl (by kernel_rfl)) rfl ⟨?_, g3⟩
      unfold RulePost
      rw [he.out]
      exact ⟨rb, _, _, _, rfl, by decide⟩
    | some g =>
      rw [hdc] at hp
      obtain ⟨xg, rfl, hbx, hone⟩ := hp
      obtain ⟨gp, gc, rfl⟩ := hbx.shape
      have hw := hid (show Ru.rwhere l d.place = .ok g.boxes by unfold Ru.rwhere; rw [hany, hdc]; rfl)
      rw [hw.out] at he0
      simp only at he0
      have hgs := (hsm0.out g (List.mem_of_find?_eq_some hdc)).boxes
      have hone' := hid hone
      have S5 := hid ((S4.out.ext hb5).ext (balloc w5 (.cells (declCells g (.slice gp g.boxes.length gc)) 39)))
      have y3 := (Blk.new w5 (declCells g (.slice gp g.boxes.length gc)) 39).cell 3 (v := .slice gp g.boxes.length gc) rfl
      clear hone hb5 hdc hw hany S4
      go_upto_region 21 with (first | (refine wpList_store_new rfl 39 (.tmp 13) (.tmp 90) rfl rfl w5 39 _ (declCells g (.slice gp g.boxes.length gc)) rfl rfl rfl (by kernel_rfl) rfl (hone'.out) ?_))
      obtain ⟨q0, q1, q2, q3, q4, q5, q6⟩ := rulS S5.out.rul
      have qf := S5.out.rul.free
      have qlt := S5.out.rul.lt
      have ho := S5.out.lt
      have S6 := hid (S5.out.set 5 (.slice gp g.boxes.length gc) rb (.slice gp g.boxes.length gc) rfl)
      have XX := hid (XK.touch (p1 := p1) (p2 := p2) (XK.old hbx (bthen W0.out S5.out.bel) (by omega) (by omega) (by omega)) (.inr (.inr rfl)) ((Touch.refl b _).setCell 5 (.slice gp g.boxes.length gc)))
      have XO := hid (show BoxOwn (.slice gp g.boxes.length gc) g.boxes w0.heap.size w.heap.size from by
        rcases hbx with ⟨_, _, _, h⟩ | hr
        · exact .inl h
        · exact .inr fun k e => .inl (hr.own_lt e))
      go_upto_region 22 with (fail)
      generalize (w5.alloc (.cells (declCells g (.slice gp g.boxes.length gc)) 39)).setCell ⟨b, 5, none⟩ (.slice gp g.boxes.length gc) = w6 at *
      have hxs : g.boxes.length ≤ 140737488355328 := by omega
      clear q0 q1 q2 q3 q4 q5 q6 qf qlt ho S5 hbx y3 y16 y17 xp xl xc
      generalize hxl2 : g.boxes.length = xl at *
      generalize g.boxes = bs at *
      have hxl := hid hxl2
      clear hxl2
      have q5 : w6.cell? ⟨b, 5, none⟩ = some (.slice gp xl gc) := S6.out.rul.cell 5 rfl
      have y21 : w6.cell? ⟨w.heap.size, 21, none⟩ = some (.int .i64 d.zoom) := S6.out.dec.cell 21 rfl
      try rw [hxl.out] at he0
      by_cases hl : 32 < boxes + (xl : Int)
      · have he : Hid (Ru.rrule l d n boxes = .error (2, d.line, d.col)) := hid (by rw [he0.out, if_pos hl])
        clear he0
        have e1 : w6.cell? ⟨w.heap.size, 22, none⟩ = some (.int .i64 d.line) := S6.out.dec.cell 22 rfl
        have e2 : w6.cell? ⟨w.heap.size, 22 + 1, none⟩ = some (.int .i64 d.col) := S6.out.dec.cell 23 rfl
        generalize d.line = L at *
        generalize d.col = C at *
        obtain ⟨r0, r1, r2_, r3, r4, r5, r6⟩ := rbS S6.out.rul
        have ho := S6.out.lt
        have n1 : p1 ≠ p2 := by omega
        have n2 : p2 ≠ p1 := by omega
        have n3 : b ≠ p1 := by omega
        have n4 : b ≠ p2 := by omega
        have n5 : w.heap.size ≠ p1 := by omega
        have n6 : w.heap.size ≠ p2 := by omega
        have rlt := S6.out.res.lt
        have flt := S6.out.flt.lt
        have rfr := S6.out.res.free
        have ffr := S6.out.flt.free
        obtain ⟨k0, k1, k2, k3, k4, k5, k6⟩ := rulS S6.out.res
        obtain ⟨f0, f1, f2, _, _⟩ := S6.out.flt.three
        go_wp2_with fail
        go_region_held3 (fun w' => w'.cell? ⟨b, 0, none⟩ = some (.int .i64 rb.kind) ∧ w'.cell? ⟨b, 1, none⟩ = some (.int .i64 rb.roles) ∧ w'.cell? ⟨b, 1 + 1, none⟩ = some (.int .i64 rb.lo) ∧ w'.cell? ⟨b, 1 + 1 + 1, none⟩ = some (.int .i64 rb.hi) ∧ w'.cell? ⟨b, 1 + 1 + 1 + 1, none⟩ = some (.int .i64 rb.labels) ∧ w'.cell? ⟨b, 1 + 1 + 1 + 1 + 1, none⟩ = some (.slice gp xl gc) ∧ w'.cell? ⟨b, 1 + 1 + 1 + 1 + 1 + 1, none⟩ = some (.int .i64 rb.zoom) ∧ w'.cell? ⟨w.heap.size, 22, none⟩ = some (.int .i64 L) ∧ w'.cell? ⟨w.heap.size, 22 + 1, none⟩ = some (.int .i64 C)) (first | with_reducible assumption | (refine ⟨?_, ?_, ?_, ?_, ?_, ?_, ?_, ?_, ?_⟩ <;> (simp only [far n3, far n4, far n5, far n6, drewc]; assumption)) | go_keep) (first | fail)
        go_wp2_with fail
        obtain ⟨g1, g2, g3⟩ := S6.out.fail (.int .i64 2) (.int .i64 L) (.int .i64 C)
        refine bodyPost_ret (v := .tuple #[.agg (ruleArr rb (.slice gp xl gc)), .agg #[.int .i64 2, .int .i64 L, .int .i64 C]]) (results_blk2 (p := 8) (q := 9) (ty := 52) (tz := 27) rfl _ _ p1 52 _ p2 27 _ rfl rfl g1 g2 Tryz.underlying52 rfl (by kernel_rfl) Tryz.underlying27 rfl (by kernel_rfl)) rfl ⟨?_, g3⟩
        unfold RulePost
        rw [he.out]
        exact ⟨rb, _, _, _, rfl, by decide⟩
      rw [if_neg hl] at he0
      by_cases hz : 16 < d.zoom
      · have he : Hid (Ru.rrule l d n boxes = .error (33, d.line, d.col)) := hid (by rw [he0.out, if_pos hz])
        clear he0
        have e1 : w6.cell? ⟨w.heap.size, 22, none⟩ = some (.int .i64 d.line) := S6.out.dec.cell 22 rfl
        have e2 : w6.cell? ⟨w.heap.size, 22 + 1, none⟩ = some (.int .i64 d.col) := S6.out.dec.cell 23 rfl
        generalize d.line = L at *
        generalize d.col = C at *
        obtain ⟨r0, r1, r2_, r3, r4, r5, r6⟩ := rbS S6.out.rul
        have ho := S6.out.lt
        have n1 : p1 ≠ p2 := by omega
        have n2 : p2 ≠ p1 := by omega
        have n3 : b ≠ p1 := by omega
        have n4 : b ≠ p2 := by omega
        have n5 : w.heap.size ≠ p1 := by omega
        have n6 : w.heap.size ≠ p2 := by omega
        have rlt := S6.out.res.lt
        have flt := S6.out.flt.lt
        have rfr := S6.out.res.free
        have ffr := S6.out.flt.free
        obtain ⟨k0, k1, k2, k3, k4, k5, k6⟩ := rulS S6.out.res
        obtain ⟨f0, f1, f2, _, _⟩ := S6.out.flt.three
        go_wp2_with fail
        go_region_held3 (fun w' => w'.cell? ⟨b, 0, none⟩ = some (.int .i64 rb.kind) ∧ w'.cell? ⟨b, 1, none⟩ = some (.int .i64 rb.roles) ∧ w'.cell? ⟨b, 1 + 1, none⟩ = some (.int .i64 rb.lo) ∧ w'.cell? ⟨b, 1 + 1 + 1, none⟩ = some (.int .i64 rb.hi) ∧ w'.cell? ⟨b, 1 + 1 + 1 + 1, none⟩ = some (.int .i64 rb.labels) ∧ w'.cell? ⟨b, 1 + 1 + 1 + 1 + 1, none⟩ = some (.slice gp xl gc) ∧ w'.cell? ⟨b, 1 + 1 + 1 + 1 + 1 + 1, none⟩ = some (.int .i64 rb.zoom) ∧ w'.cell? ⟨w.heap.size, 22, none⟩ = some (.int .i64 L) ∧ w'.cell? ⟨w.heap.size, 22 + 1, none⟩ = some (.int .i64 C)) (first | with_reducible assumption | (refine ⟨?_, ?_, ?_, ?_, ?_, ?_, ?_, ?_, ?_⟩ <;> (simp only [far n3, far n4, far n5, far n6, drewc]; assumption)) | go_keep) (first | fail)
        go_wp2_with fail
        obtain ⟨g1, g2, g3⟩ := S6.out.fail (.int .i64 33) (.int .i64 L) (.int .i64 C)
        refine bodyPost_ret (v := .tuple #[.agg (ruleArr rb (.slice gp xl gc)), .agg #[.int .i64 33, .int .i64 L, .int .i64 C]]) (results_blk2 (p := 8) (q := 9) (ty := 52) (tz := 27) rfl _ _ p1 52 _ p2 27 _ rfl rfl g1 g2 Tryz.underlying52 rfl (by kernel_rfl) Tryz.underlying27 rfl (by kernel_rfl)) rfl ⟨?_, g3⟩
        unfold RulePost
        rw [he.out]
        exact ⟨rb, _, _, _, rfl, by decide⟩
      rw [if_neg hz] at he0
      have he := hid he0.out
      clear he0
      obtain ⟨q0, q1, q2, q3, q4, _, q6⟩ := rulS S6.out.rul
      have qf := S6.out.rul.free
      have qlt := S6.out.rul.lt
      have ho := S6.out.lt
      have nb : w.heap.size ≠ b := by omega
      have y9 : w6.cell? ⟨w.heap.size, 9, none⟩ = some (.int .i64 d.lo) := S6.out.dec.cell 9 rfl
      have y10 : w6.cell? ⟨w.heap.size, 10, none⟩ = some (.int .i64 d.hi) := S6.out.dec.cell 10 rfl
      have S7 := hid (S6.out.three d.lo d.hi d.zoom)
      have XF := hid (XX.out.done (.int .i64 d.lo) (.int .i64 d.hi) (.int .i64 d.zoom))
      go_upto_region 29 with (fail)
      generalize (((w6.setCell ⟨b, 2, none⟩ (.int .i64 d.lo)).setCell ⟨b, 3, none⟩ (.int .i64 d.hi)).setCell ⟨b, 6, none⟩ (.int .i64 d.zoom)) = wf at *
      go_wp2_with (first | (refine wpList_load_blk rfl 52 (.tmp 10) rfl 128 rfl b 52 (ruleArr { rb with lo := d.lo, hi := d.hi, zoom := d.zoom } (.slice gp xl gc)) (S7.out.rul) rfl Tryz.underlying52 rfl (by kernel_rfl) ?_) | (refine wpList_store_blk rfl 52 (.tmp 8) (.tmp 128) rfl rfl p1 52 _ (ruleArr { rb with lo := d.lo, hi := d.hi, zoom := d.zoom } (.slice gp xl gc)) (S7.out.res) rfl rfl (by kernel_rfl) rfl (ruleArr_one _ rfl) ?_) | (refine wpList_store_blk rfl 27 (.tmp 9) (.tmp 129) rfl rfl p2 27 _ (#[.int .i64 0, .int .i64 0, .int .i64 0]) (S7.out.flt1 _) rfl rfl (by kernel_rfl) rfl (zf_one) ?_))
      obtain ⟨g1, g2, g3⟩ := S7.out.done
      refine bodyPost_ret (v := .tuple #[.agg (ruleArr { rb with lo := d.lo, hi := d.hi, zoom := d.zoom } (.slice gp xl gc)), .agg #[.int .i64 0, .int .i64 0, .int .i64 0]]) (results_blk2 (p := 8) (q := 9) (ty := 52) (tz := 27) rfl _ _ p1 52 _ p2 27 _ rfl rfl g1 g2 Tryz.underlying52 rfl (by kernel_rfl) Tryz.underlying27 rfl (by kernel_rfl)) rfl ⟨?_, g3⟩
      unfold RulePost
      rw [he.out]
      exact ⟨.slice gp xl gc, by rw [hrB.out]; rfl, XF.out _ _, XO.out⟩


end Go.Proofs.YtelphkhacadfaaaGreat
