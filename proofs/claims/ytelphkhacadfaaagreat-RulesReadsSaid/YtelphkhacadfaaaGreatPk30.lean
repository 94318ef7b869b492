/-
  The document's own reader of policies: what rule's and decl's walks share.
  The document's own reader of policies: boxes.
  The document's own reader of policies: what decl's walks share.
-/
import Derived.Test.YtelphkhacadfaaaGreatPk29
import Derived.Test.YtelphkhacadfaaaGreatPk05
import Derived.Deep.MidRow
import Derived.Test.YtelphkhacadfaaaGreatPk28
import Derived.Deep.AppendLies
import Derived.Deep.RegionHeld3

namespace Go.Proofs.YtelphkhacadfaaaGreat
open Go.RowKit Go.Sort

section
variable {w0 w : World} {L : Value} {T : List Lx.Tok} {st : Po.St}
theorem rrwant_c (e : Nat × Nat) (h : RRd w0 L T st) (hw0 : Below w0.heap.size w0 w) (s : ByteArray) (S : Po.St) (hS : S = Po.want T e s.data.toList st) :
    Calls Tryz.prog 35 #[.agg (rdArr L e st), .string s] w fun en w' => RdBack w0 T e S en ∧ Below w.heap.size w w' := hS ▸ rrwant_any e h hw0 s
theorem rris_c (e : Nat × Nat) (h : RRd w0 L T st) (hw0 : Below w0.heap.size w0 w) (s : ByteArray) (b : Bool) (hb : b = Po.is T s.data.toList st) :
    Calls Tryz.prog 31 #[.agg (rdArr L e st), .string s] w fun en w' => en = .returned (.bool b) ∧ Below w.heap.size w w' := hb ▸ rris_any e h hw0 s
theorem rrof_c (e : Nat × Nat) (h : RRd w0 L T st) (hw0 : Below w0.heap.size w0 w) (k : Nat) (n : Int) (hn : n = k) (S : Po.St) (t : Lx.Tok) (hS : S = Po.takeSt T e k st) (ht : t = Po.takeTok T k st) :
    Calls Tryz.prog 34 #[.agg (rdArr L e st), .int .i64 n] w fun en w' => (∃ L, en = .returned (.tuple #[.agg (rdArr L e S), .agg (tokArr t)]) ∧ RRd w0 L T S) ∧ Below w.heap.size w w' := hS ▸ ht ▸ rrof_lit e h hw0 k n hn
theorem rrwho_c (e : Nat × Nat) (h : RRd w0 L T st) (hw0 : Below w0.heap.size w0 w) (s : ByteArray) (b : Bool) (S : Po.St) (x : Po.Who) (hS : S = Po.wS T e s.data.toList b st) (hx : x = Po.wV T e s.data.toList b st) :
    Calls Tryz.prog 37 #[.agg (rdArr L e st), .string s, .bool b] w fun en w' => WhoBack w0 T e x S en ∧ Below w.heap.size w w' := hS ▸ hx ▸ rrwho_any e h hw0 s b
end
theorem Blk.there {w : World} {b : Nat} {cs : Array Value} {t : TypeId} (h : Blk w b cs t) {o n : Nat} (hn : o + n ≤ cs.size) : w.there b o n := fun i hi => by
  have h1 : o + i < cs.size := by omega
  exact ⟨by rw [h.cell (o + i) (Array.getElem?_eq_getElem h1)]; rfl, h.free (o + i)⟩
theorem whoArr_list (x : Po.Who) : (whoArr x).toList = [.bool x.any, .string x.name, .int .i64 x.n, .int .i64 x.line, .int .i64 x.col] := rfl
theorem Blk.setWho {w : World} {b o : Nat} {cs cs' : Array Value} {t : TypeId} (h : Blk w b cs t) (x : Po.Who) (hc : ((((cs.setIfInBounds o (.bool x.any)).setIfInBounds (o + 1) (.string x.name)).setIfInBounds (o + 1 + 1) (.int .i64 x.n)).setIfInBounds (o + 1 + 1 + 1) (.int .i64 x.line)).setIfInBounds (o + 1 + 1 + 1 + 1) (.int .i64 x.col) = cs') : Blk (w.setCells b o (whoArr x).toList) b cs' t := by
  rw [whoArr_list, ← hc]
  exact ((((h.set o _).set (o + 1) _).set (o + 1 + 1) _).set (o + 1 + 1 + 1) _).set (o + 1 + 1 + 1 + 1) _
theorem Blk.setWhoOther {w : World} {b k o : Nat} {cs : Array Value} {t : TypeId} (h : Blk w b cs t) (hk : b ≠ k) (x : Po.Who) : Blk (w.setCells k o (whoArr x).toList) b cs t := by
  rw [whoArr_list]
  exact ((((h.setOther hk _ _).setOther hk _ _).setOther hk _ _).setOther hk _ _).setOther hk _ _
theorem below_setWho {B k o : Nat} {a w : World} (h : Below B a w) (hk : B ≤ k) (x : Po.Who) : Below B a (w.setCells k o (whoArr x).toList) := by
  rw [whoArr_list]
  exact bset (bset (bset (bset (bset h hk _) hk _) hk _) hk _) hk _
/-- the blocks of rule: the reader, the declaration, the two results, the token -/
structure RlB (w0 w : World) (T : List Lx.Tok) (e : Nat × Nat) (b3 b4 b5 b6 : Nat) (v : Value) (L : Value) (st : Po.St) (d : Po.Decl) (t : Lx.Tok) (wx : World) : Prop where
  rd : Blk wx w.heap.size (rdArr L e st) 48
  rr : RRd w0 L T st
  dd : Blk wx b3 (declCells d v) 39
  r4 : Blk wx b4 zeroR 48
  r5 : Blk wx b5 (declCells Po.zeroDecl (.slice none 0 0)) 39
  tk : Blk wx b6 (tokArr t) 81
  bel : Below w.heap.size w wx
  ord : w.heap.size < b3 ∧ b3 < b4 ∧ b4 < b5 ∧ b5 < b6
section
variable {w0 w : World} {T : List Lx.Tok} {e : Nat × Nat} {b3 b4 b5 b6 : Nat} {v L : Value} {st : Po.St} {d : Po.Decl} {t : Lx.Tok} {wx wy : World}
theorem RlB.ext (h : RlB w0 w T e b3 b4 b5 b6 v L st d t wx) (hb : Below wx.heap.size wx wy) : RlB w0 w T e b3 b4 b5 b6 v L st d t wy :=
  ⟨h.rd.ext hb, h.rr, h.dd.ext hb, h.r4.ext hb, h.r5.ext hb, h.tk.ext hb, h.bel.trans (hb.mono h.bel.size), h.ord⟩
theorem RlB.setRd {L' : Value} {st' : Po.St} (h : RlB w0 w T e b3 b4 b5 b6 v L st d t wx) (hr : RRd w0 L' T st') : RlB w0 w T e b3 b4 b5 b6 v L' st' d t (wx.setRow w.heap.size (rdArr L' e st')) := by
  obtain ⟨o1, o2, o3, o4⟩ := h.ord
  exact ⟨h.rd.setRow _, hr, h.dd.setRowOther (by omega), h.r4.setRowOther (by omega), h.r5.setRowOther (by omega), h.tk.setRowOther (by omega), below_setRow h.bel (Nat.le_refl _) _, h.ord⟩
theorem RlB.setTok {t' : Lx.Tok} (h : RlB w0 w T e b3 b4 b5 b6 v L st d t wx) : RlB w0 w T e b3 b4 b5 b6 v L st d t' (wx.setRow b6 (tokArr t')) := by
  obtain ⟨o1, o2, o3, o4⟩ := h.ord
  exact ⟨h.rd.setRowOther (by omega), h.rr, h.dd.setRowOther (by omega), h.r4.setRowOther (by omega), h.r5.setRowOther (by omega), h.tk.setRow _, below_setRow h.bel (by omega) _, h.ord⟩
theorem RlB.setD {d' : Po.Decl} (h : RlB w0 w T e b3 b4 b5 b6 v L st d t wx) (o : Nat) (u : Value) (hx : (declCells d v).setIfInBounds o u = declCells d' v) : RlB w0 w T e b3 b4 b5 b6 v L st d' t (wx.setCell ⟨b3, o, none⟩ u) := by
  obtain ⟨o1, o2, o3, o4⟩ := h.ord
  exact ⟨h.rd.setOther (by omega) o u, h.rr, hx ▸ h.dd.set o u, h.r4.setOther (by omega) o u, h.r5.setOther (by omega) o u, h.tk.setOther (by omega) o u, bset h.bel (by omega) u, h.ord⟩
theorem RlB.setW {d' : Po.Decl} (h : RlB w0 w T e b3 b4 b5 b6 v L st d t wx) (o : Nat) (x : Po.Who) (hx : (((((declCells d v).setIfInBounds o (.bool x.any)).setIfInBounds (o + 1) (.string x.name)).setIfInBounds (o + 1 + 1) (.int .i64 x.n)).setIfInBounds (o + 1 + 1 + 1) (.int .i64 x.line)).setIfInBounds (o + 1 + 1 + 1 + 1) (.int .i64 x.col) = declCells d' v) : RlB w0 w T e b3 b4 b5 b6 v L st d' t (wx.setCells b3 o (whoArr x).toList) := by
  obtain ⟨o1, o2, o3, o4⟩ := h.ord
  exact ⟨h.rd.setWhoOther (by omega) x, h.rr, h.dd.setWho x hx, h.r4.setWhoOther (by omega) x, h.r5.setWhoOther (by omega) x, h.tk.setWhoOther (by omega) x, below_setWho h.bel (by omega) x, h.ord⟩
end

/-- two readers have as many cells -/
theorem rdArr_size6 (L : Value) (e : Nat × Nat) (st : Po.St) : (rdArr L e st).size = 6 := rfl
theorem rdArr_size_eq (L L' : Value) (e e' : Nat × Nat) (st st' : Po.St) : (rdArr L e st).size = (rdArr L' e' st').size := rfl
theorem Blk.rngr {w : World} {b : Nat} {cs : Array Value} {t : TypeId} (h : Blk w b cs t) : w.rangeAt b 0 cs.toList := by
  have := World.rangeAt_of_block h 0 cs.size
  rwa [Nat.zero_add, Array.extract_size] at this

end Go.Proofs.YtelphkhacadfaaaGreat

namespace Go.Proofs.YtelphkhacadfaaaGreat
open Go.RowKit Go.Sort

/-- a reader and boxes that come back -/
def BoxesBack (w0 : World) (T : List Lx.Tok) (e : Nat × Nat) (bs : List Po.Box) (st : Po.St) (B : Nat) (w' : World) (en : Ending) : Prop :=
  ∃ L v, en = .returned (.tuple #[.agg (rdArr L e st), v]) ∧ RRd w0 L T st ∧ Row w' v bs.length 4 (boxesCells bs) ∧ ∀ k, v.ownBlock = some k → B ≤ k
theorem owns_far {w w' : World} {base : Nat} {e : TypeId} {size : Nat} {v : Value} {n : Nat} {xs : List Value} {b : Nat} (h : w.ownsRow base e size v n xs) (hb : Touch b w w') (hne : v.ownBlock ≠ some b) : w'.ownsRow base e size v n xs := by
  refine ⟨h.1, ?_⟩
  rcases h.2 with h2 | ⟨g, cap, cur, hv, hbb, hg, r⟩
  · exact .inl h2
  · refine .inr ⟨g, cap, cur, hv, hbb, (hb.block g (lt_of_block hg) (fun e => hne (by rw [hv, e]; rfl))).trans hg, r⟩
/-- a reader in a block that is known whole, and a slot: two results -/
theorem results_blkS {P : Program} {fn : Func} {p q : Tmp} {ty : TypeId} (h : fn.results = #[.cell p ty, .tmp q]) (tmps : Array Value) (w : World) (g : Nat) (t : TypeId) (cs : Array Value) (v : Value)
    (hp : tmps.getD p undef = .pointer (some ⟨g, 0, none⟩)) (hq : tmps.getD q undef = v) (hb : Blk w g cs t)
    {d : TypeDesc} (hu : P.underlying ty = some d) (hr : d.isRow = true) (hi : (P.info? ty).map (·.size) = some cs.size) :
    (results fn tmps).run P w = .ok (.tuple #[.agg cs, v]) w := by
  have h1 : (loadVar ty ⟨g, 0, none⟩).run P w = .ok (.agg cs) w := run_loadVar_row w g t ty cs (0, 0) d hb hu (by cases d <;> simp_all) hi
  have hp' : tmps[p]?.getD undef = .pointer (some ⟨g, 0, none⟩) := by simpa using hp
  have hq' : tmps[q]?.getD undef = v := by simpa using hq
  simp only [results, h]
  simp [Result.andThen, hp', hq', asAddr, h1]
/-- the numbers so far -/
def numsArr (T : List Lx.Tok) (e : Nat × Nat) (s : Po.St) (k : Nat) : Array Value := #[.int .i64 (Po.upto T e s k 0), .int .i64 (Po.upto T e s k 1), .int .i64 (Po.upto T e s k 2), .int .i64 (Po.upto T e s k 3)]
theorem numsArr_step (T : List Lx.Tok) (e : Nat × Nat) (s : Po.St) (k : Nat) (hk : k < 4) : (numsArr T e s k).setIfInBounds k (.int .i64 (Po.num T e s k : Nat)) = numsArr T e s (k + 1) := by
  have h4 : k = 0 ∨ k = 1 ∨ k = 2 ∨ k = 3 := by omega
  rcases h4 with rfl | rfl | rfl | rfl <;> simp [numsArr, Po.upto]
theorem numsArr_box (T : List Lx.Tok) (e : Nat × Nat) (s : Po.St) : (numsArr T e s 4).toList = boxCells (Po.boxV T e s) := rfl
/-- the blocks of boxes' inner loop -/
structure BxB (w0 w : World) (T : List Lx.Tok) (e : Nat × Nat) (nb : Nat) (O : Value) (bs : List Po.Box) (st : Po.St) (L : Value) (cs : Array Value) (wx : World) : Prop where
  rd : Blk wx w.heap.size (rdArr L e st) 48
  rr : RRd w0 L T st
  ar : Blk wx nb cs 3
  r2 : Blk wx (w.heap.size + 1) zeroR 48
  ow : wx.ownsRow (w.heap.size + 2) 63 4 O bs.length (boxesCells bs)
  bel : Below w.heap.size w wx
  ord : w.heap.size + 1 < nb
  far : ∀ j, O.ownBlock = some j → j < nb
section
variable {w0 w : World} {T : List Lx.Tok} {e : Nat × Nat} {nb : Nat} {O : Value} {bs : List Po.Box} {st : Po.St} {L : Value} {cs : Array Value} {wx wy : World}
theorem BxB.ext (h : BxB w0 w T e nb O bs st L cs wx) (hb : Below wx.heap.size wx wy) : BxB w0 w T e nb O bs st L cs wy :=
  ⟨h.rd.ext hb, h.rr, h.ar.ext hb, h.r2.ext hb, owns_ext h.ow hb, h.bel.trans (hb.mono h.bel.size), h.ord, h.far⟩
theorem BxB.setRd {L' : Value} {st' : Po.St} (h : BxB w0 w T e nb O bs st L cs wx) (hr : RRd w0 L' T st') : BxB w0 w T e nb O bs st' L' cs (wx.setRow w.heap.size (rdArr L' e st')) := by
  have o := h.ord
  exact ⟨h.rd.setRow _, hr, h.ar.setRowOther (by omega), h.r2.setRowOther (by omega), owns_touch h.ow ((Touch.refl _ _).setRow _) (by omega), below_setRow h.bel (Nat.le_refl _) _, o, h.far⟩
theorem BxB.setOther {k : Nat} (h : BxB w0 w T e nb O bs st L cs wx) (hk : nb < k) (cs' : Array Value) : BxB w0 w T e nb O bs st L cs (wx.setRow k cs') := by
  have o := h.ord
  exact ⟨h.rd.setRowOther (by omega), h.rr, h.ar.setRowOther (by omega), h.r2.setRowOther (by omega), owns_far h.ow ((Touch.refl k wx).setRow _) (fun e => by have := h.far _ e; omega), below_setRow h.bel (by omega) _, o, h.far⟩
theorem BxB.setAr (h : BxB w0 w T e nb O bs st L cs wx) (k : Nat) (u : Value) : BxB w0 w T e nb O bs st L (cs.setIfInBounds k u) (wx.setCell ⟨nb, k, none⟩ u) := by
  have o := h.ord
  exact ⟨h.rd.setOther (by omega) k u, h.rr, h.ar.set k u, h.r2.setOther (by omega) k u, owns_far h.ow ((Touch.refl nb wx).setCell k u) (fun e => by have := h.far _ e; omega), bset h.bel (by omega) u, o, h.far⟩
end

set_option maxRecDepth 100000 in
set_option maxHeartbeats 4000000 in
theorem rrboxes_any {w0 w : World} {L : Value} {T : List Lx.Tok} {st : Po.St} (e : Nat × Nat) (h : RRd w0 L T st) (hw0 : Below w0.heap.size w0 w) :
    Calls Tryz.prog 36 #[.agg (rdArr L e st)] w fun en w' => BoxesBack w0 T e (Po.boxesV T e st) (Po.boxesS T e st) w.heap.size w' en ∧ Below w.heap.size w w' := by
  obtain ⟨i0, hinf, hiz, hisz, hiby⟩ := info_parts Tryz.infoRect
  have z1 := balloc w (.cells (rdArr L e st) 48)
  have z2 := balloc (w.alloc (.cells (rdArr L e st) 48)) (.cells zeroR 48)
  have B0 := hid ((Blk.new w (rdArr L e st) 48).ext z2)
  have R0 := hid (Blk.newAt (w := w.alloc (.cells (rdArr L e st) 48)) (k := w.heap.size + 1) (by simp) zeroR 48)
  have Q0 := hid (bthen z1 z2)
  have h' := hid h
  have hw0' := hid hw0
  have hsm := h.small
  have hbeg := hid (Po.Boxing.begin T e st)
  clear z1 z2 h hw0
  unfold zeroR at *
  go_enter Tryz.func36, Tryz.ntmps36
  go_wp2_with fail
  generalize hW : ((w.alloc (.cells (rdArr L e st) 48)).alloc _) = wx at *
  clear hW
  go_loopg [4, 5] (T.length + 2) (fun g u4 u5 wr => ∃ (bs : List Po.Box) (s : Po.St) (L : Value) (m : Bool) (f : Nat), u5 = .bool m ∧ bs.length ≤ T.length + 2 ∧ Blk wr w.heap.size (rdArr L e s) 48 ∧ RRd w0 L T s ∧ Blk wr (w.heap.size + 1) zeroR 48 ∧ wr.ownsRow (w.heap.size + 2) 63 4 u4 bs.length (boxesCells bs) ∧ Below w.heap.size w wr ∧
    ((m = true ∧ f + 1 = g ∧ Po.Boxing T e st f (bs ++ [Po.boxV T e s]) (Po.boxS T e s)) ∨ (m = false ∧ Po.boxesV T e st = bs ∧ Po.boxesS T e st = s)))
  case atStart => exact ⟨[], st, L, true, T.length + 1, rfl, Nat.zero_le _, B0.out, h'.out, R0.out, World.ownsRow_nil _ _ _ _, Q0.out, .inl ⟨rfl, rfl, hbeg.out⟩⟩
  case round =>
    obtain ⟨bs, s, L1, m, f, rfl, hlen, hB, hP, hR, hO, hQ, hm⟩ := hrel
    have B1 := hid hB
    have P1 := hid hP
    have R1 := hid hR
    have O1 := hid hO
    have Q1 := hid hQ
    clear hB hP hR hO hQ B0 R0 Q0
    obtain ⟨op, oc, rfl⟩ := row_shape (Row.of_owns O1.out)
    cases m with
    | false =>
      have hst := hid (show Po.boxesV T e st = bs ∧ Po.boxesS T e st = s by rcases hm with h | h <;> first | exact h.2 | exact absurd h.1 (by decide))
      clear hm
      have O2 := hid (owns_far O1.out ((Touch.refl (w.heap.size + 1) wr).setRow (rdArr L1 e s)) (own_ne O1.out (by omega)))
      go_wp2_with (first | (refine wpList_load_blk rfl 48 (.tmp 1) rfl 46 rfl w.heap.size 48 (rdArr L1 e s) (B1.out) rfl Tryz.underlying48 rfl (by kernel_rfl) ?_) | (refine wpList_store_blk rfl 48 (.tmp 2) (.tmp 46) rfl rfl (w.heap.size + 1) 48 _ (rdArr L1 e s) (R1.out) rfl rfl (by kernel_rfl) rfl (rdArr_one P1.out e _) ?_))
      rw [hst.out.1, hst.out.2]
      refine bodyPost_ret (v := .tuple #[.agg (rdArr L1 e s), .slice op bs.length oc]) (results_blkS (p := 2) (q := 3) (ty := 48) rfl _ _ (w.heap.size + 1) 48 _ _ rfl rfl (R1.out.setRow _) Tryz.underlying48 rfl (by kernel_rfl)) rfl ⟨⟨L1, _, rfl, P1.out, ?_, ?_⟩, below_setRow Q1.out (by omega) _⟩
      · exact Row.of_owns O2.out
      · intro k hk
        have := (O2.out.lt k hk).1
        omega
    | true =>
      have hbx := hid (show Po.Boxing T e st f (bs ++ [Po.boxV T e s]) (Po.boxS T e s) by rcases hm with h | h <;> first | exact h.2.2 | exact absurd h.1 (by decide))
      obtain rfl : f + 1 = gk := by rcases hm with h | h <;> first | exact h.2.1 | exact absurd h.1 (by decide)
      clear hm
      have zb := balloc wr (.cells (numsArr T e s 0) 3)
      have S0 := hid (show BxB w0 w T e wr.heap.size (.slice op bs.length oc) bs s L1 (numsArr T e s 0) (wr.alloc (.cells (numsArr T e s 0) 3)) from
        ⟨B1.out.ext zb, P1.out, Blk.new wr _ _, R1.out.ext zb, O1.out.alloc _, bthen Q1.out zb, R1.out.lt, fun j hj => (O1.out.lt j hj).2⟩)
      clear zb B1 P1 R1 O1 Q1
      unfold numsArr Po.upto at S0
      simp only [Nat.not_lt_zero, if_false] at S0
      go_wp2_with fail
      generalize hW : wr.alloc _ = wb at *
      generalize hnb : wr.heap.size = nb at *
      clear hW hnb
      go_loopg [7] 4 (fun g u wi => ∃ (k : Nat) (L : Value), u = .int .i64 k ∧ k + g = 4 ∧ BxB w0 w T e nb (.slice op bs.length oc) bs (Po.nth T e s k) L (numsArr T e s k) wi)
      case atStart => exact ⟨0, L1, rfl, rfl, S0.out⟩
      case round =>
        obtain ⟨k, L2, rfl, hk, hS⟩ := hrel
        have S1 := hid hS
        clear hS S0
        by_cases hk4 : k < 4
        · have k0 : (0 : Int) ≤ k := by omega
          have k4 : (k : Int) < 4 := by omega
          have hg4 : (4 : Int) ≤ 4 := by omega
          have zt := balloc wr (.cells zeroT 81)
          have S2 := hid (S1.out.ext zt)
          have T2 := hid (Blk.new wr zeroT 81)
          have hpt := S1.out.ar.lt
          clear zt
          unfold zeroT at *
          go_wp2_with (first | (refine wpList_load_blk rfl 48 (.tmp 1) rfl 16 rfl w.heap.size 48 (rdArr L2 e (Po.nth T e s k)) (S2.out.rd) rfl Tryz.underlying48 rfl (by kernel_rfl) ?_))
          generalize hW : wr.alloc _ = wc at *
          generalize hpe : wr.heap.size = pt at *
          clear hW hpe S1
          refine (rrof_lit e S2.out.rr (bthen hw0'.out S2.out.bel) 3 3 rfl).mono ?_
          rintro en w3 ⟨⟨L3, rfl, hL3⟩, hb3⟩
          have P3 := hid hL3
          have S3 := hid ((S2.out.ext hb3).setRd hL3)
          have S3b := hid (S2.out.ext hb3)
          have T3 := hid ((T2.out.ext hb3).setRowOther (k := w.heap.size) (cs' := rdArr L3 e (Po.takeSt T e 3 (Po.nth T e s k))) (by have := S2.out.ord; omega))
          clear hb3 hL3 S2 T2
          have hnum : Hid ((Po.takeTok T 3 (Po.nth T e s k)).n = Po.num T e s k) := hid rfl
          have hnth : Hid (Po.takeSt T e 3 (Po.nth T e s k) = Po.nth T e s (k + 1)) := hid rfl
          generalize Po.takeTok T 3 (Po.nth T e s k) = tk at *
          generalize Po.takeSt T e 3 (Po.nth T e s k) = sk at *
          have S4 := hid (S3.out.setOther hpt (tokArr tk))
          have T4 := hid (T3.out.setRow (tokArr tk))
          have c2 := T4.out.cell 2 (v := .int .i64 tk.n) rfl
          obtain ⟨uo, huo⟩ : ∃ uo, (numsArr T e s k)[k]? = some uo := ⟨(numsArr T e s k)[k]'(by show k < 4; omega), Array.getElem?_eq_getElem _⟩
          have a2 := S4.out.ar.cell k huo
          have af := S4.out.ar.free k
          have al := S4.out.ar.lt
          clear huo
          go_wp2_with (first | (refine wpList_store_blk rfl 48 (.tmp 1) (.tmp 18) rfl rfl w.heap.size 48 _ (rdArr L3 e sk) (S3b.out.rd) rfl rfl (by kernel_rfl) rfl (rdArr_one P3.out e _) ?_) | (refine wpList_store_blk rfl 81 (.tmp 8) (.tmp 19) rfl rfl pt 81 _ (tokArr tk) (T3.out) rfl rfl (by kernel_rfl) rfl (tokArr_one _) ?_))
          obtain ⟨g', rfl⟩ : ∃ g', gk = g' + 1 := ⟨gk - 1, by omega⟩
          go_roundg g'
          case measure => omega
          case rel =>
            refine ⟨k + 1, L3, by go_num, by omega, ?_⟩
            rw [← hnth.out, ← numsArr_step T e s k hk4, ← hnum.out]
            exact S4.out.setAr k _
        · obtain rfl : k = 4 := by omega
          go_upto_region 11 with (fail)
          have hs4 : Hid (Po.nth T e s 4 = Po.boxS T e s) := hid rfl
          have hbc : Hid (numsArr T e s 4 = (boxCells (Po.boxV T e s)).toArray) := hid rfl
          rw [hs4.out, hbc.out] at S1
          generalize Po.boxV T e s = bx at *
          generalize Po.boxS T e s = s4 at *
          have n0 := S1.out.ar.cell 0 (v := .int .i64 bx.x0) rfl
          have n1 := S1.out.ar.cell 1 (v := .int .i64 bx.y0) rfl
          have n2 := S1.out.ar.cell 2 (v := .int .i64 bx.x1) rfl
          have n3 := S1.out.ar.cell 3 (v := .int .i64 bx.y1) rfl
          have hnlt := S1.out.ar.lt
          have hnf : Hid (∀ j, (Value.slice op bs.length oc).ownBlock = some j → j ≠ nb) := hid (fun j hj => by have := S1.out.far j hj; omega)
          have hal := hid (S1.out.ow.drew.alloc (.cells (boxCells bx).toArray 63))
          have hc1 := hid (cells_new wr.drew (boxCells bx) 63 (k := wr.heap.size) rfl)
          have hcap : bs.length + 1 ≤ maxLen := by unfold maxLen; omega
          have hbase := hid (show w.heap.size + 2 ≤ (wr.drew.alloc (.cells (boxCells bx).toArray 63)).heap.size by rw [World.size_alloc]; have := S1.out.ar.lt; have := S1.out.ord; show _ ≤ wr.heap.size + 1; omega)
          have hH := hid (show (wr.drew.alloc (.cells (boxCells bx).toArray 63)).heap.size = wr.heap.size + 1 by rw [World.size_alloc]; rfl)
          go_region_held3 (fun w' => w'.cell? ⟨nb, 0, none⟩ = some (.int .i64 bx.x0) ∧ w'.cell? ⟨nb, 1, none⟩ = some (.int .i64 bx.y0) ∧ w'.cell? ⟨nb, 2, none⟩ = some (.int .i64 bx.x1) ∧ w'.cell? ⟨nb, 3, none⟩ = some (.int .i64 bx.y1))
            (first | go_keep | (refine ⟨?_, ?_, ?_, ?_⟩ <;> (rw [hgrow.cell_far _ (by simp; omega) (fun e => hnf.out _ e.symm rfl)]; simp [*])))
            ((refine step_append_lies _ rfl (.tmp 25) (.tmp 39) 35 (by rfl) (w.heap.size + 2) 63 i0 (.agg #[.int .i64 0, .int .i64 0, .int .i64 0, .int .i64 0]) 4 32 Tryz.underlying35 hinf hiz hisz hiby rfl (by decide) _ bs.length _ (by rfl) hal.out ⟨wr.heap.size, 0, none⟩ 1 1 (boxCells bx) (by rfl) rfl hc1.out (boxCells_one _) (by decide) hcap (by omega) hbase.out (wr.heap.size + 1) hH.out ?_; intro g cap w1 hown1 hgrow hat hlt))
          have ha := balloc wr.drew (.cells (boxCells bx).toArray 63)
          have hown : Hid (∀ j, (Value.slice op bs.length oc).ownBlock = some j → w.heap.size + 2 ≤ j) := hid (fun j hj => (hal.out.lt j hj).1)
          have B5 := hid (Blk.grown ((Blk.drew S1.out.rd).ext ha) hgrow (own_ne hal.out (by omega)))
          have R5 := hid (Blk.grown ((Blk.drew S1.out.r2).ext ha) hgrow (own_ne hal.out (by omega)))
          have Q5 := hid (((S1.out.bel.drew).alloc (by exact S1.out.bel.size) (.cells (boxCells bx).toArray 63)).grown hgrow (by rw [World.size_alloc]; exact Nat.le_succ_of_le S1.out.bel.size) (fun k hk => by have := hown.out k hk; omega))
          have O5 : Hid (w1.ownsRow (w.heap.size + 2) 63 4 (.slice (some ⟨g, 0, none⟩) (bs.length + 1) cap) (bs ++ [bx]).length (boxesCells (bs ++ [bx]))) := hid (by rw [boxesCells_snoc, List.length_append]; exact hown1)
          have P5 := hid S1.out.rr
          clear hgrow hown1 hal hc1 hH hbase ha hown n0 n1 n2 n3 hat hnf S1
          go_wp2_with (first | (refine wpList_load_blk rfl 48 (.tmp 1) rfl 41 rfl w.heap.size 48 (rdArr L2 e s4) (B5.out) rfl Tryz.underlying48 rfl (by kernel_rfl) ?_))
          refine (rris_any e P5.out (bthen hw0'.out Q5.out) ⟨#[43]⟩).mono ?_
          rintro en w6 ⟨rfl, hb6⟩
          have B6 := hid (B5.out.ext hb6)
          have R6 := hid (R5.out.ext hb6)
          have Q6 := hid (bthen Q5.out hb6)
          have O6 := hid (owns_ext O5.out hb6)
          clear hb6 B5 R5 Q5 O5
          have hlen2 := hbx.out.len
          rw [List.length_append] at hlen2
          simp only [List.length_cons, List.length_nil] at hlen2
          cases hi : Po.is T [43] s4 with
          | false =>
            have hst := hid (hbx.out.stop hi)
            go_wp2_with fail
            go_roundg f
            case measure => omega
            case rel =>
              exact ⟨bs ++ [bx], s4, L2, false, 0, rfl, by rw [List.length_append]; simp only [List.length_cons, List.length_nil]; omega, B6.out, P5.out, R6.out, by rw [List.length_append]; rw [List.length_append] at O6; exact O6.out, Q6.out, .inr ⟨rfl, hst.out⟩⟩
          | true =>
            have hpos := hbx.out.pos hi
            obtain ⟨f', rfl⟩ : ∃ f', f = f' + 1 := ⟨f - 1, by omega⟩
            have hst := hid (hbx.out.step hi)
            have hlt4 := hid (Po.lt_of_is hi)
            go_wp2_with (first | (refine wpList_load_blk rfl 48 (.tmp 1) rfl 44 rfl w.heap.size 48 (rdArr L2 e s4) (B6.out) rfl Tryz.underlying48 rfl (by kernel_rfl) ?_))
            refine (rron_any e P5.out (bthen hw0'.out Q6.out) hlt4.out).mono ?_
            rintro en w7 ⟨⟨L7, rfl, hL7⟩, hb7⟩
            have P7 := hid hL7
            have B7 := hid (B6.out.ext hb7)
            have R7 := hid (R6.out.ext hb7)
            have Q7 := hid (bthen Q6.out hb7)
            have O7 := hid (owns_ext O6.out hb7)
            clear hb7 hL7 B6 R6 Q6 O6
            go_wp2_with (first | (refine wpList_store_blk rfl 48 (.tmp 1) (.tmp 45) rfl rfl w.heap.size 48 _ (rdArr L7 e (Po.on s4)) (B7.out) rfl rfl (by kernel_rfl) rfl (rdArr_one P7.out e _) ?_))
            go_roundg (f' + 1)
            case measure => omega
            case rel =>
              exact ⟨bs ++ [bx], Po.on s4, L7, true, f', rfl, by rw [List.length_append]; simp only [List.length_cons, List.length_nil]; omega, B7.out.setRow _, P7.out, R7.out.setRowOther (by omega), by rw [List.length_append]; rw [List.length_append] at O7; exact owns_touch O7.out ((Touch.refl _ _).setRow _) (by omega), below_setRow Q7.out (Nat.le_refl _) _, .inl ⟨rfl, rfl, hst.out⟩⟩

end Go.Proofs.YtelphkhacadfaaaGreat

namespace Go.Proofs.YtelphkhacadfaaaGreat
open Go.RowKit Go.Sort

namespace Po
/-- the words that begin a declaration -/
def wordL : List ByteArray := [⟨#[]⟩, ⟨#[114, 111, 108, 101]⟩, ⟨#[108, 97, 98, 101, 108]⟩, ⟨#[114, 101, 103, 105, 111, 110]⟩, ⟨#[97, 108, 108, 111, 119]⟩, ⟨#[99, 97, 112]⟩, ⟨#[99, 108, 111, 97, 107]⟩]
def wordB (k : Nat) : ByteArray := wordL.getD k ⟨#[]⟩
/-- the last word below k that stands here -/
def kU (T : List Lx.Tok) (st : St) : Nat → Nat
  | 0 => 0
  | k + 1 => if is T (wordB k).data.toList st && decide (0 < k) then k else kU T st k
theorem kU_one (T : List Lx.Tok) (st : St) : kU T st 1 = 0 := by
  rw [kU, if_neg (by simp)]; rfl
theorem kU_yes {T : List Lx.Tok} {st : St} {k : Nat} (h : is T (wordB k).data.toList st = true) (hk : 0 < k) : kU T st (k + 1) = k := by
  rw [kU, if_pos (by simp [h, hk])]
theorem kU_no {T : List Lx.Tok} {st : St} {k : Nat} (h : is T (wordB k).data.toList st = false) : kU T st (k + 1) = kU T st k := by
  rw [kU, if_neg (by simp [h])]
theorem is_only {T : List Lx.Tok} {st : St} {x : Lx.Bytes} (h : is T x st = true) (y : Lx.Bytes) : is T y st = (x == y) := by
  unfold is at h ⊢
  cases ht : T[st.at_]? with
  | none => rw [ht] at h; simp at h
  | some t =>
    rw [ht] at h
    simp only [Bool.and_eq_true, beq_iff_eq] at h ⊢
    rw [h.1, ← h.2]
    simp
theorem kU_of {T : List Lx.Tok} {st : St} {k : Nat} (hk : k < 7) (h0 : 0 < k) (h : is T (wordB k).data.toList st = true) : kU T st 7 = k := by
  have h' := is_only h
  have hc : k = 1 ∨ k = 2 ∨ k = 3 ∨ k = 4 ∨ k = 5 ∨ k = 6 := by omega
  rcases hc with rfl | rfl | rfl | rfl | rfl | rfl <;> (simp only [kU, h']; decide)
theorem kU_is {T : List Lx.Tok} {st : St} : ∀ {n : Nat}, 0 < kU T st n → is T (wordB (kU T st n)).data.toList st = true
  | 0, h => absurd h (Nat.lt_irrefl 0)
  | n + 1, h => by
    rw [kU] at h ⊢
    split at h <;> rename_i hc
    · rw [if_pos hc]
      simp only [Bool.and_eq_true] at hc
      exact hc.1
    · rw [if_neg hc]
      exact kU_is h
theorem is_of_kU {T : List Lx.Tok} {st : St} {k : Nat} (hk : 0 < k) (h : kU T st 7 = k) : is T (wordB k).data.toList st = true := by
  have := kU_is (T := T) (st := st) (n := 7) (by omega)
  rwa [h] at this
theorem kU_none {T : List Lx.Tok} {st : St} (h : ∀ k, 0 < k → k < 7 → is T (wordB k).data.toList st = false) : kU T st 7 = 0 := by
  simp [kU, h 1, h 2, h 3, h 4, h 5, h 6]
/-- what decl leaves: the document's reader stops where no declaration begins -/
def rdS (T : List Lx.Tok) (e : Nat × Nat) (st : St) : St := if kU T st 7 = 0 then wrong T e st else declS T e st
def rdV (T : List Lx.Tok) (e : Nat × Nat) (st : St) : Decl := if kU T st 7 = 0 then declAt T e st 0 else declV T e st
end Po
def dwordsArr : Array Value := #[.string ⟨#[]⟩, .string ⟨#[114, 111, 108, 101]⟩, .string ⟨#[108, 97, 98, 101, 108]⟩, .string ⟨#[114, 101, 103, 105, 111, 110]⟩, .string ⟨#[97, 108, 108, 111, 119]⟩, .string ⟨#[99, 97, 112]⟩, .string ⟨#[99, 108, 111, 97, 107]⟩]
theorem dwordsArr_at {k : Nat} (hk : k < 7) : dwordsArr[k]? = some (.string (Po.wordB k)) := by
  have hc : k = 0 ∨ k = 1 ∨ k = 2 ∨ k = 3 ∨ k = 4 ∨ k = 5 ∨ k = 6 := by omega
  rcases hc with rfl | rfl | rfl | rfl | rfl | rfl | rfl <;> rfl
set_option maxHeartbeats 1000000 in
theorem rrwords_any (w : World) : Calls Tryz.prog 30 #[] w fun en w' => (en = .returned (.slice (some ⟨w.heap.size, 0, none⟩) 7 7) ∧ Blk w' w.heap.size dwordsArr 9) ∧ Below w.heap.size w w' := by
  go_enter Tryz.func30, Tryz.ntmps30
  go_wp2_with fail
  go_ret
  exact ⟨⟨rfl, Blk.new _ dwordsArr _⟩, balloc _ _⟩
/-- a reader and a declaration that come back -/
def DcBack (w0 : World) (T : List Lx.Tok) (e : Nat × Nat) (st : Po.St) (d : Po.Decl) (B : Nat) (w' : World) (en : Ending) : Prop :=
  ∃ L v, en = .returned (.tuple #[.agg (rdArr L e st), .agg (declCells d v)]) ∧ RRd w0 L T st ∧ Row w' v d.boxes.length 4 (boxesCells d.boxes) ∧ ∀ k, v.ownBlock = some k → B ≤ k
/-- the blocks of decl: the reader, the two results, the declaration, one more -/
structure DcB (w0 w : World) (T : List Lx.Tok) (e : Nat × Nat) (b4 bx : Nat) (xc : Array Value) (xt : TypeId) (v : Value) (L : Value) (st : Po.St) (d : Po.Decl) (wx : World) : Prop where
  rd : Blk wx w.heap.size (rdArr L e st) 48
  rr : RRd w0 L T st
  r2 : Blk wx (w.heap.size + 1) zeroR 48
  r3 : Blk wx (w.heap.size + 1 + 1) (declCells Po.zeroDecl (.slice none 0 0)) 39
  dd : Blk wx b4 (declCells d v) 39
  xx : Blk wx bx xc xt
  bel : Below w.heap.size w wx
  ord : w.heap.size + 1 + 1 < b4 ∧ b4 < bx
section
variable {w0 w : World} {T : List Lx.Tok} {e : Nat × Nat} {b4 bx : Nat} {xc : Array Value} {xt : TypeId} {v L : Value} {st : Po.St} {d : Po.Decl} {wx wy : World}
theorem DcB.ext (h : DcB w0 w T e b4 bx xc xt v L st d wx) (hb : Below wx.heap.size wx wy) : DcB w0 w T e b4 bx xc xt v L st d wy :=
  ⟨h.rd.ext hb, h.rr, h.r2.ext hb, h.r3.ext hb, h.dd.ext hb, h.xx.ext hb, h.bel.trans (hb.mono h.bel.size), h.ord⟩
theorem DcB.setRd {L' : Value} {st' : Po.St} (h : DcB w0 w T e b4 bx xc xt v L st d wx) (hr : RRd w0 L' T st') : DcB w0 w T e b4 bx xc xt v L' st' d (wx.setRow w.heap.size (rdArr L' e st')) := by
  obtain ⟨o1, o2⟩ := h.ord
  exact ⟨h.rd.setRow _, hr, h.r2.setRowOther (by omega), h.r3.setRowOther (by omega), h.dd.setRowOther (by omega), h.xx.setRowOther (by omega), below_setRow h.bel (Nat.le_refl _) _, h.ord⟩
theorem DcB.setX (h : DcB w0 w T e b4 bx xc xt v L st d wx) (xc' : Array Value) : DcB w0 w T e b4 bx xc' xt v L st d (wx.setRow bx xc') := by
  obtain ⟨o1, o2⟩ := h.ord
  exact ⟨h.rd.setRowOther (by omega), h.rr, h.r2.setRowOther (by omega), h.r3.setRowOther (by omega), h.dd.setRowOther (by omega), h.xx.setRow _, below_setRow h.bel (by omega) _, h.ord⟩
theorem DcB.setDD {d' : Po.Decl} {v' : Value} (h : DcB w0 w T e b4 bx xc xt v L st d wx) : DcB w0 w T e b4 bx xc xt v' L st d' (wx.setRow b4 (declCells d' v')) := by
  obtain ⟨o1, o2⟩ := h.ord
  exact ⟨h.rd.setRowOther (by omega), h.rr, h.r2.setRowOther (by omega), h.r3.setRowOther (by omega), h.dd.setRow _, h.xx.setRowOther (by omega), below_setRow h.bel (by omega) _, h.ord⟩
theorem DcB.setD {d' : Po.Decl} {v' : Value} (h : DcB w0 w T e b4 bx xc xt v L st d wx) (o : Nat) (u : Value) (hx : (declCells d v).setIfInBounds o u = declCells d' v') : DcB w0 w T e b4 bx xc xt v' L st d' (wx.setCell ⟨b4, o, none⟩ u) := by
  obtain ⟨o1, o2⟩ := h.ord
  exact ⟨h.rd.setOther (by omega) o u, h.rr, h.r2.setOther (by omega) o u, h.r3.setOther (by omega) o u, hx ▸ h.dd.set o u, h.xx.setOther (by omega) o u, bset h.bel (by omega) u, h.ord⟩
theorem DcB.setW {d' : Po.Decl} (h : DcB w0 w T e b4 bx xc xt v L st d wx) (o : Nat) (x : Po.Who) (hx : (((((declCells d v).setIfInBounds o (.bool x.any)).setIfInBounds (o + 1) (.string x.name)).setIfInBounds (o + 1 + 1) (.int .i64 x.n)).setIfInBounds (o + 1 + 1 + 1) (.int .i64 x.line)).setIfInBounds (o + 1 + 1 + 1 + 1) (.int .i64 x.col) = declCells d' v) : DcB w0 w T e b4 bx xc xt v L st d' (wx.setCells b4 o (whoArr x).toList) := by
  obtain ⟨o1, o2⟩ := h.ord
  exact ⟨h.rd.setWhoOther (by omega) x, h.rr, h.r2.setWhoOther (by omega) x, h.r3.setWhoOther (by omega) x, h.dd.setWho x hx, h.xx.setWhoOther (by omega) x, below_setWho h.bel (by omega) x, h.ord⟩
theorem DcB.six (h : DcB w0 w T e b4 bx xc xt v L st d wx) {k : Nat} {u : Value} (hk : xc[k]? = some u) : wx.cell? ⟨w.heap.size, 0, none⟩ = some L ∧ wx.cell? ⟨w.heap.size, 1, none⟩ = some (.int .i64 e.1) ∧ wx.cell? ⟨w.heap.size, 1 + 1, none⟩ = some (.int .i64 e.2) ∧ wx.cell? ⟨w.heap.size, 1 + 1 + 1, none⟩ = some (.int .i64 st.f.1) ∧ wx.cell? ⟨w.heap.size, 1 + 1 + 1 + 1, none⟩ = some (.int .i64 st.f.2.1) ∧
      wx.cell? ⟨w.heap.size, 1 + 1 + 1 + 1 + 1, none⟩ = some (.int .i64 st.f.2.2) ∧ wx.cell? ⟨bx, k, none⟩ = some u :=
  ⟨h.rd.cell 0 rfl, h.rd.cell 1 rfl, h.rd.cell 2 rfl, h.rd.cell 3 rfl, h.rd.cell 4 rfl, h.rd.cell 5 rfl, h.xx.cell k hk⟩
end

end Go.Proofs.YtelphkhacadfaaaGreat
