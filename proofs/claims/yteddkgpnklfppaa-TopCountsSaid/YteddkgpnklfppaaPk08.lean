/-
  The walks of the tree of points: what is told to a counter of all records below a node.
  The walks of the tree of points: what is told to a counter of a rectangle's records; Count.
  The walk of the tree of points: Count.
-/
import Derived.Test.YteddkgpnklfppaaPk07

namespace Go.Proofs.Yteddkgpnklfppaa
open Go.RowKit Go.Sort Go.Maps

theorem enter_cnt (args : Array Value) (w : World) : Sem.run Try.prog (callFunc 32 args) w = .ok (.enter 32 args) w := by kernel_rfl
/-- the counter's cell -/
def cellB (w : World) (cb c : Nat) : Prop := Blk w cb #[.int .i64 c] 3
theorem tcnt_any {w : World} {cb c : Nat} (h : cellB w cb c) (hc : c ≤ 100000) (r : Tc.Rec) :
    Calls Try.prog 32 #[.agg (recArr r), .pointer (some ⟨cb, 0, none⟩)] w fun e w' => e = .returned (.tuple #[]) ∧ cellB w' cb (c + 1) ∧ Touch cb w w' := by
  unfold cellB at *
  have z := balloc w (.cells (recArr r) 40)
  have C0 := hid (h.ext z)
  have T0 := hid (Touch.of_below (b := cb) z)
  have hcI : (c : Int) ≤ 100000 := by omega
  obtain ⟨c0, cf, cz⟩ := (h.ext z).one
  clear z h
  go_enter Try.func32, Try.ntmps32
  go_wp2_with fail
  go_end0
  exact ⟨rfl, C0.out.set 0 _, T0.out.setCell 0 _⟩
/-- the function value that counts -/
def tellV (cb : Nat) : Value := .func (.func 32) #[] #[.pointer (some ⟨cb, 0, none⟩)]
theorem node_one (n : Tc.Node) (v : Value) (hv : v.oneCell' = true) : (nodeArr n v).all (·.oneCell') = true := nodeArr_one n v hv
def EachPost (w : World) (cb c : Nat) (e : Ending) (w' : World) : Prop := e = .returned (.tuple #[]) ∧ cellB w' cb c ∧ Touch cb w w'
/-- the tree is there, and the counter is none of its blocks -/
structure Ct (w : World) (t m b : Nat) (N : List Tc.Node) (A : List Tc.Rec) (O : Nat → Prop) (cb : Nat) : Prop where
  tree : TrW w t m b N A O
  far : cb ≠ t ∧ cb ≠ m ∧ ¬ O cb
theorem Ct.touch {w w' : World} {t m b : Nat} {N : List Tc.Node} {A : List Tc.Rec} {O : Nat → Prop} {cb : Nat} (h : Ct w t m b N A O cb) (ht : Touch cb w w') : Ct w' t m b N A O cb :=
  ⟨h.tree.keep (S := fun k => k = cb) (Keep.of_touch ht rfl) (fun k hk => by subst hk; exact h.far), h.far⟩
theorem Ct.ext {w w' : World} {t m b : Nat} {N : List Tc.Node} {A : List Tc.Rec} {O : Nat → Prop} {cb : Nat} (h : Ct w t m b N A O cb) (hb : Below w.heap.size w w') : Ct w' t m b N A O cb := h.touch (Touch.of_below hb)
/-- a node as the walk reads it -/
theorem Ct.node {w : World} {t m b : Nat} {N : List Tc.Node} {A : List Tc.Rec} {O : Nat → Prop} {cb : Nat} (h : Ct w t m b N A O cb) {a : Nat} {n : Tc.Node} (ha : N[a]? = some n) :
    ∃ (g cap : Nat) (v : Value), w.cell? ⟨t, 1, none⟩ = some (.slice (some ⟨g, 0, none⟩) N.length cap) ∧ w.rangeAt g (a * 10) (nodeArr n v).toList ∧ w.ownsRow (t + 1) 40 4 v n.l.length (recsC n.l) ∧ v.ownBlock ≠ some cb := by
  obtain ⟨ps, p, g, cap, hN, hpa, hp1, hM, hlen, hlt⟩ := h.tree.mem.pos ha
  obtain ⟨g', cap', hge, _, _, hc, _⟩ := hM.nodes (by omega)
  cases hge
  refine ⟨g, cap, p.2, by rw [← hlen]; exact hM.blk.cell 1 rfl, ?_, ?_, fun e => h.far.2.2 (hM.inO2 a p hpa cb e)⟩
  · intro j u hj
    rw [← hp1] at hj
    exact hc a p hpa j u (by rw [← Array.getElem?_toList]; exact hj)
  · have := hM.recs a p hpa
    rw [hp1] at this
    exact this
theorem cntN_true {N : List Tc.Node} {A : List Tc.Rec} (h : Tc.Tree N A) {i : Nat} {n : Tc.Node} (hn : N[i]? = some n) : Tc.cntN (fun _ => true) A n = n.many := Tc.cntN_all h hn _ (fun _ _ => rfl)
/-- a sum over children -/
def sumM (f : Nat → Nat) : Nat → Nat
  | 0 => 0
  | j + 1 => sumM f j + f j
def kidK (n : Tc.Node) (q : Nat) : Nat := (n.kid q).toNat
def kidN (N : List Tc.Node) (n : Tc.Node) (q : Nat) : Tc.Node := (N[kidK n q]?).getD n
theorem kids_of {N : List Tc.Node} (h : Tc.Shape N) {a : Nat} {n : Tc.Node} (ha : N[a]? = some n) (hs : n.split = true) {q : Nat} (hq : q < 4) : n.kid q = (kidK n q : Int) ∧ a < kidK n q ∧ N[kidK n q]? = some (kidN N n q) := by
  obtain ⟨_, _, hk⟩ := h.kids a n ha hs
  obtain ⟨k, m, m1, m2, m3, _⟩ := hk q hq
  have e : kidK n q = k := by unfold kidK; rw [m1]; simp
  unfold kidN
  rw [e]
  exact ⟨m1, m2, by rw [m3]; rfl⟩
theorem sum_split {N : List Tc.Node} {A : List Tc.Rec} (h : Tc.Tree N A) {a : Nat} {n : Tc.Node} (ha : N[a]? = some n) (hs : n.split = true) (p : Tc.Rec → Bool) : sumM (fun q => Tc.cntN p A (kidN N n q)) 4 = Tc.cntN p A n := by
  have h0 := (kids_of h.shape ha hs (q := 0) (by decide)).2.2
  have h1 := (kids_of h.shape ha hs (q := 1) (by decide)).2.2
  have h2 := (kids_of h.shape ha hs (q := 2) (by decide)).2.2
  have h3 := (kids_of h.shape ha hs (q := 3) (by decide)).2.2
  rw [Tc.cntN_split h ha hs p h0 h1 h2 h3]
  show 0 + Tc.cntN p A (kidN N n 0) + Tc.cntN p A (kidN N n 1) + Tc.cntN p A (kidN N n 2) + Tc.cntN p A (kidN N n 3) = _
  omega
theorem sumM_le (f : Nat → Nat) {i j : Nat} (h : i ≤ j) : sumM f i ≤ sumM f j := by
  induction j with
  | zero => rw [show i = 0 by omega]; exact Nat.le_refl _
  | succ j ih =>
    by_cases e : i = j + 1
    · subst e; exact Nat.le_refl _
    · have := ih (by omega)
      show _ ≤ sumM f j + f j
      omega
theorem index_kids (n : Tc.Node) {j : Nat} (hj : j < 4) (w : World) : Sem.run Try.prog (Instr.index 82 (.agg #[.int .i64 n.k0, .int .i64 n.k1, .int .i64 n.k2, .int .i64 n.k3]) (.int .i64 j)) w = .ok (.int .i64 (n.kid j)) w := by
  obtain rfl | rfl | rfl | rfl : j = 0 ∨ j = 1 ∨ j = 2 ∨ j = 3 := by omega
  all_goals kernel_rfl
set_option maxRecDepth 100000 in
set_option maxHeartbeats 8000000 in
theorem teach_step {t m b : Nat} {N : List Tc.Node} {A : List Tc.Rec} {O : Nat → Prop} {cb : Nat} (_hA : A.length ≤ 1000) {d : Nat} (ih : ∀ (w : World) (a c : Nat) (n : Tc.Node), N.length - a < d → N[a]? = some n → Ct w t m b N A O cb → cellB w cb c → c + n.many ≤ 10000 →
      Calls Try.prog 44 #[.pointer (some ⟨t, 0, none⟩), .int .i64 a, tellV cb] w (EachPost w cb (c + n.many)))
    (w : World) (a c : Nat) (n : Tc.Node) (hd : N.length - a ≤ d) (ha : N[a]? = some n) (hC : Ct w t m b N A O cb) (hB : cellB w cb c) (hc : c + n.many ≤ 10000) :
    Calls Try.prog 44 #[.pointer (some ⟨t, 0, none⟩), .int .i64 a, tellV cb] w (EachPost w cb (c + n.many)) := by
  have hen := enter_cnt
  have hlt : a < N.length := (List.getElem?_eq_some_iff.1 ha).1
  have hlN := hC.tree.tree.shape.len
  obtain ⟨g, cap, v, c1, hrng, hrow, hvc⟩ := hC.node ha
  have hrg := hid hrng
  obtain ⟨vp, vc, hv⟩ := owns_shape hrow
  subst hv
  have htr := hid hC.tree.tree
  have hlm : n.l.length ≤ n.many := by
    have h1 := htr.out.at ha
    cases hs : n.split with
    | true => rw [(htr.out.shape.kids a n ha hs).1]; exact Nat.zero_le _
    | false => rw [h1.2 hs, h1.1]; exact Nat.le_refl _
  have z := balloc w (.cells (nodeArr n (.slice vp n.l.length vc)) 85)
  have R0 := hid hrow
  have C00 := hid hC
  have B0 := hid (show cellB _ cb c from Blk.ext hB z)
  have X0 := hid (Blk.new w (nodeArr n (.slice vp n.l.length vc)) 85)
  have T0 := hid (Touch.of_below (b := cb) z)
  have hcw : cb < w.heap.size := Blk.lt hB
  have haI : (a : Int) < N.length := by omega
  have hlI : (n.l.length : Int) ≤ 10000 := by omega
  have ha' := hid ha
  have ih' := hid ih
  clear z hC hB hrow hrng ih ha
  unfold tellV
  go_enter Try.func44, Try.ntmps44
  go_upto_region 1 with (first | (refine wpList_load_at rfl 85 (.tmp 16) rfl 17 rfl g (a * 10) (nodeArr n (.slice vp n.l.length vc)) (hrg.out) rfl Try.underlying85 rfl (by kernel_rfl) ?_) | (refine wpList_store_new rfl 85 (.tmp 6) (.tmp 17) rfl rfl w 85 _ (nodeArr n (.slice vp n.l.length vc)) rfl rfl rfl (by kernel_rfl) rfl (nodeArr_one n (.slice vp n.l.length vc) rfl) ?_))
  clear c1
  have x9 := X0.out.cell 9 (v := .slice vp n.l.length vc) rfl
  go_wp2_with fail
  go_loopw [8, 21] (fun _ u21 wr => ∃ j : Nat, u21 = .int .i64 j ∧ j ≤ n.l.length ∧ cellB wr cb (c + j) ∧ Touch cb w wr ∧ Blk wr w.heap.size (nodeArr n (.slice vp n.l.length vc)) 85) (fun _ u21 _ => n.l.length - (intOf u21).toNat)
  case atStart => exact ⟨0, rfl, Nat.zero_le _, B0.out, T0.out, X0.out⟩
  case round =>
    obtain ⟨j, rfl, hj, hB, hT, hX⟩ := hrel
    have B1 := hid hB
    have T1 := hid hT
    have X1 := hid hX
    clear hB hT hX B0 T0 X0 x9
    by_cases hjl : j < n.l.length
    · obtain ⟨lg, lc, hlv, _, _, _, _⟩ := owns_block R0.out (by omega)
      cases hlv
      have hrec := hid (owns_rec (owns_other R0.out T1.out hvc) rfl hjl)
      generalize n.l[j] = x at *
      have z := balloc wr (.cells (recArr x) 40)
      have hcnt := hid (tcnt_any (r := x) (show cellB _ cb (c + j) from Blk.ext B1.out z) (by omega))
      have Y2 := hid (Blk.new wr (recArr x) 40)
      have T2 := hid (T1.out.below z)
      have X2 := hid (X1.out.ext z)
      have hjI : (j : Int) < n.l.length := by omega
      clear z B1 X1
      go_wp2_with (first | (refine wpList_load_at rfl 40 (.tmp 23) rfl 24 rfl lg (j * 4) (recArr x) (hrec.out) rfl Try.underlying40 rfl (by kernel_rfl) ?_) | (refine wpList_store_new rfl 40 (.tmp 8) (.tmp 24) rfl rfl wr 40 _ (recArr x) rfl rfl rfl (by kernel_rfl) rfl (recArr_one x) ?_) | (refine wpList_load_blk rfl 40 (.tmp 8) rfl 26 rfl wr.heap.size 40 (recArr x) (Y2.out) rfl Try.underlying40 rfl (by kernel_rfl) ?_))
      refine hcnt.out.mono ?_
      rintro e w5 ⟨rfl, h5, t5⟩
      have B5 := hid h5
      have T5 := hid (T2.out.trans t5)
      have X5 := hid (X2.out.touch t5 (by omega))
      clear h5 t5 hcnt T2 X2 Y2
      go_wp2_with fail
      go_roundw
      case rel => exact ⟨j + 1, by go_num, by omega, B5.out, T5.out, X5.out⟩
      case measure => simp [intOf]; omega
    · obtain rfl : j = n.l.length := by omega
      have x8 := X1.out.cell 8 (v := .bool n.split) rfl
      have x3 : wr.cell? ⟨w.heap.size, 3, none⟩ = some (.int .i64 n.k0) := X1.out.cell 3 rfl
      have x4 : wr.cell? ⟨w.heap.size, 3 + 1, none⟩ = some (.int .i64 n.k1) := X1.out.cell 4 rfl
      have x5 : wr.cell? ⟨w.heap.size, 3 + 1 + 1, none⟩ = some (.int .i64 n.k2) := X1.out.cell 5 rfl
      have x6 : wr.cell? ⟨w.heap.size, 3 + 1 + 1 + 1, none⟩ = some (.int .i64 n.k3) := X1.out.cell 6 rfl
      cases hs : n.split with
      | false =>
        rw [hs] at x8
        have hm := hid (show n.l.length = n.many by
          have h1 := htr.out.at ha'.out
          rw [h1.2 hs, h1.1])
        clear hs
        go_wp2_with fail
        go_end0
        exact ⟨rfl, by rw [← hm.out]; exact B1.out, T1.out⟩
      | true =>
        rw [hs] at x8
        have hs' := hid hs
        have hnl := hid (show n.l.length = 0 by rw [(htr.out.shape.kids a n ha'.out hs).1]; rfl)
        have hsum := hid (show sumM (fun q => (kidN N n q).many) 4 = n.many from by
          have h1 := sum_split htr.out ha'.out hs (fun _ => true)
          rw [cntN_true htr.out ha'.out] at h1
          rw [← h1]
          have h2 : ∀ j, j ≤ 4 → sumM (fun q => (kidN N n q).many) j = sumM (fun q => Tc.cntN (fun _ => true) A (kidN N n q)) j := by
            intro j
            induction j with
            | zero => intro _; rfl
            | succ j ihj =>
              intro hj
              show _ + (kidN N n j).many = _ + Tc.cntN (fun _ => true) A (kidN N n j)
              rw [ihj (by omega), cntN_true htr.out (kids_of htr.out.shape ha'.out hs (q := j) (by omega)).2.2]
          exact h2 4 (Nat.le_refl _))
        have hix := hid (fun (j : Nat) (hj : j < 4) => index_kids n hj)
        clear hs
        go_wp2_with fail
        clear x8 x3 x4 x5 x6
        go_loopw [10, 33] (fun _ u33 wr => ∃ j : Nat, u33 = .int .i64 j ∧ j ≤ 4 ∧ cellB wr cb (c + sumM (fun q => (kidN N n q).many) j) ∧ Touch cb w wr) (fun _ u33 _ => 4 - (intOf u33).toNat)
        case atStart => exact ⟨0, rfl, Nat.zero_le _, by have h := B1.out; rw [hnl.out] at h; exact h, T1.out⟩
        case round =>
          obtain ⟨j, rfl, hj, hB, hT⟩ := hrel
          have B2 := hid hB
          have T2 := hid hT
          clear hB hT B1 T1 X1
          by_cases hj4 : j < 4
          · obtain ⟨hk1, hk2, hk3⟩ := kids_of htr.out.shape ha'.out hs'.out hj4
            have hidx := hix.out j hj4
            rw [hk1] at hidx
            have hle := sumM_le (fun q => (kidN N n q).many) (show j + 1 ≤ 4 by omega)
            have hstp : sumM (fun q => (kidN N n q).many) (j + 1) = sumM (fun q => (kidN N n q).many) j + (kidN N n j).many := rfl
            have hsm := hsum.out
            have hcall := hid (ih'.out wr (kidK n j) (c + sumM (fun q => (kidN N n q).many) j) (kidN N n j) (by have := (List.getElem?_eq_some_iff.1 hk3).1; omega) hk3 (C00.out.touch T2.out) B2.out (by omega))
            have hj4I : (j : Int) < 4 := by omega
            have hst := hid hstp
            clear hk1 hk2 hk3 hle hstp hsm
            generalize kidK n j = kk at *
            generalize kidN N n j = kn at *
            unfold tellV at hcall
            go_wp2_with fail
            refine hcall.out.mono ?_
            rintro e w6 ⟨rfl, h6, t6⟩
            have B6 := hid h6
            have T6 := hid (T2.out.trans t6)
            clear h6 t6 hcall
            go_wp2_with fail
            go_roundw
            case rel => exact ⟨j + 1, by go_num, by omega, by rw [hst.out, ← Nat.add_assoc]; exact B6.out, T6.out⟩
            case measure => simp [intOf]; omega
          · obtain rfl : j = 4 := by omega
            go_wp2_with fail
            go_end0
            exact ⟨rfl, by have h := B2.out; rw [hsum.out] at h; exact h, T2.out⟩
theorem teach_all {t m b : Nat} {N : List Tc.Node} {A : List Tc.Rec} {O : Nat → Prop} {cb : Nat} (hA : A.length ≤ 1000) : ∀ (d : Nat) (w : World) (a c : Nat) (n : Tc.Node), N.length - a ≤ d → N[a]? = some n → Ct w t m b N A O cb → cellB w cb c → c + n.many ≤ 10000 →
      Calls Try.prog 44 #[.pointer (some ⟨t, 0, none⟩), .int .i64 a, tellV cb] w (EachPost w cb (c + n.many)) := fun d => by
  induction d using Nat.strongRecOn with
  | _ d ih => exact fun w a c n hd ha hC hB hc => teach_step hA (d := d) (fun w a c n hlt ha hC hB hc => ih (N.length - a) hlt w a c n (Nat.le_refl _) ha hC hB hc) w a c n hd ha hC hB hc

end Go.Proofs.Yteddkgpnklfppaa

namespace Go.Proofs.Yteddkgpnklfppaa
open Go.RowKit Go.Sort Go.Maps

/-- a record's place is a rectangle's -/
def hasP (r : Po.Box) (x : Tc.Rec) : Bool := Ru.boxHas r x.x x.y
theorem node_box {n : Tc.Node} {x : Tc.Rec} (h : n.has x = true) : boxHas0 (boxOf n.lv n.X n.Y) x.x x.y = true := by
  unfold Tc.Node.has at h
  rw [Tc.inC_B] at h
  unfold Tc.inB at h
  unfold boxHas0 boxOf
  simp only [decide_eq_true_eq] at h
  simp only [Bool.and_eq_true, decide_eq_true_eq]
  exact ⟨⟨⟨h.1, h.2.1⟩, h.2.2.1⟩, h.2.2.2⟩
theorem out_meets {a b : Po.Box} (h : boxMeets a b = false) {x y : Int} (ha : boxHas0 a x y = true) : Ru.boxHas b x y = false := by
  rw [Bool.eq_false_iff]
  intro hb
  unfold Ru.boxHas at hb
  unfold boxHas0 at ha
  unfold boxMeets at h
  simp only [Bool.and_eq_true, decide_eq_true_eq] at ha hb
  have : (decide (a.x0 ≤ b.x1) && decide (b.x0 ≤ a.x1) && decide (a.y0 ≤ b.y1) && decide (b.y0 ≤ a.y1)) = true := by
    simp only [Bool.and_eq_true, decide_eq_true_eq]
    omega
  rw [this] at h
  cases h
theorem all_in {a b : Po.Box} (hR : Ru.boxR b = true) (h : (boxHas0 b a.x0 a.y0 && boxHas0 b a.x1 a.y1) = true) {x y : Int} (ha : boxHas0 a x y = true) : Ru.boxHas b x y = true := by
  unfold Ru.boxHas
  rw [hR]
  unfold boxHas0 at h ha
  unfold Ru.boxR Ru.fits Ru.inside at hR
  unfold Ru.fits Ru.inside
  simp only [Bool.and_eq_true, decide_eq_true_eq, Bool.true_and] at h ha hR ⊢
  omega
theorem filter_take {p : Tc.Rec → Bool} {l : List Tc.Rec} {j : Nat} (hj : j < l.length) : ((l.take (j + 1)).filter p).length = ((l.take j).filter p).length + if p l[j] = true then 1 else 0 := by
  rw [List.take_succ_eq_append_getElem hj, List.filter_append, List.length_append]
  congr 1
  cases h : p l[j] with
  | true => simp [h]
  | false => simp [h]
set_option maxRecDepth 100000 in
set_option maxHeartbeats 8000000 in
theorem twin_step {t m b : Nat} {N : List Tc.Node} {A : List Tc.Rec} {O : Nat → Prop} {cb : Nat} (hA : A.length ≤ 1000) {r : Po.Box} (hr : Ru.boxR r = true) {d : Nat} (ih : ∀ (w : World) (a c : Nat) (n : Tc.Node), N.length - a < d → N[a]? = some n → Ct w t m b N A O cb → cellB w cb c → c + Tc.cntN (hasP r) A n ≤ 5000 →
      Calls Try.prog 31 #[.pointer (some ⟨t, 0, none⟩), .int .i64 a, rectV r, tellV cb] w (EachPost w cb (c + Tc.cntN (hasP r) A n)))
    (w : World) (a c : Nat) (n : Tc.Node) (hd : N.length - a ≤ d) (ha : N[a]? = some n) (hC : Ct w t m b N A O cb) (hB : cellB w cb c) (hc : c + Tc.cntN (hasP r) A n ≤ 5000) :
    Calls Try.prog 31 #[.pointer (some ⟨t, 0, none⟩), .int .i64 a, rectV r, tellV cb] w (EachPost w cb (c + Tc.cntN (hasP r) A n)) := by
  have hen := enter_cnt
  have hlt : a < N.length := (List.getElem?_eq_some_iff.1 ha).1
  have hlN := hC.tree.tree.shape.len
  have htr := hid hC.tree.tree
  obtain ⟨s1, s2, s3, s4, s5⟩ := hC.tree.tree.shape.cell a n ha
  have hmany : n.many ≤ 1000 := by
    have h1 := (htr.out.at ha).1
    have h2 := List.length_filter_le n.has A
    omega
  have z0 := balloc w (.cells #[.int .i64 r.x0, .int .i64 r.y0, .int .i64 r.x1, .int .i64 r.y1] 42)
  have C00 := hid hC
  have hcw : cb < w.heap.size := Blk.lt hB
  have R1 := hid (Blk.new w #[.int .i64 r.x0, .int .i64 r.y0, .int .i64 r.x1, .int .i64 r.y1] 42)
  obtain ⟨g, cap, v, c1, hrng, hrow, hvc⟩ := (hC.ext z0).node ha
  have hrg := hid hrng
  obtain ⟨vp, vc, hv⟩ := owns_shape hrow
  subst hv
  have R0 := hid hrow
  have Q1 := hid z0
  have B1 := hid (show cellB _ cb c from Blk.ext hB z0)
  have haI : (a : Int) < N.length := by omega
  have ha' := hid ha
  have ih' := hid ih
  have hlm : n.l.length ≤ n.many := by
    have h1 := htr.out.at ha
    cases hs : n.split with
    | true => rw [(htr.out.shape.kids a n ha hs).1]; exact Nat.zero_le _
    | false => rw [h1.2 hs, h1.1]; exact Nat.le_refl _
  have hbox := hid (tbox_yes s1 s2 s3 s4 s5)
  have hbR := hid (boxOf_right s1 s2 s3 s4 s5)
  have hnb := hid (fun (x : Tc.Rec) (h : n.has x = true) => node_box h)
  have hmeet := hid (fun w => tmeets_any (boxOf n.lv n.X n.Y) r hbR.out hr w)
  have hin := hid (fun w => tin_any (boxOf n.lv n.X n.Y) r hbR.out hr w)
  have hrS := hid (World.size_alloc w (.cells #[.int .i64 r.x0, .int .i64 r.y0, .int .i64 r.x1, .int .i64 r.y1] 42))
  clear z0 hC hB hrow hrng ih ha hbR s2 s3 s4 s5
  unfold tellV
  unfold rectV cellV at *
  generalize boxOf n.lv n.X n.Y = bx at *
  go_enter Try.func31, Try.ntmps31
  go_upto_region 1 with (fail)
  generalize w.alloc (.cells #[.int .i64 r.x0, .int .i64 r.y0, .int .i64 r.x1, .int .i64 r.y1] 42) = w1 at *
  have z := balloc w1 (.cells (nodeArr n (.slice vp n.l.length vc)) 85)
  have Q2 := hid (bthen Q1.out z)
  have P2 := hid z
  have B2 := hid (show cellB _ cb c from Blk.ext B1.out z)
  have X2 := hid (Blk.new w1 (nodeArr n (.slice vp n.l.length vc)) 85)
  have R2 := hid (R1.out.ext z)
  clear z Q1 B1 R1
  go_upto_region 2 with (first | (refine wpList_load_at rfl 85 (.tmp 20) rfl 21 rfl g (a * 10) (nodeArr n (.slice vp n.l.length vc)) (hrg.out) rfl Try.underlying85 rfl (by kernel_rfl) ?_) | (refine wpList_store_new rfl 85 (.tmp 8) (.tmp 21) rfl rfl w1 85 _ (nodeArr n (.slice vp n.l.length vc)) rfl rfl rfl (by kernel_rfl) rfl (nodeArr_one n (.slice vp n.l.length vc) rfl) ?_))
  clear c1
  have hk1 : w.heap.size < w1.heap.size := by have := hrS.out; omega
  generalize hw2 : w1.alloc (.cells (nodeArr n (.slice vp n.l.length vc)) 85) = w2 at *
  have hk2 : w1.heap.size < w2.heap.size := by rw [← hw2, World.size_alloc]; omega
  clear hw2
  have x0 := X2.out.cell 0 (v := .int .i64 n.lv) rfl
  have x1 := X2.out.cell 1 (v := .int .i64 n.X) rfl
  have x2 : w2.cell? ⟨w1.heap.size, 1 + 1, none⟩ = some (.int .i64 n.Y) := X2.out.cell 2 rfl
  go_wp2_with fail
  refine (hbox.out _).mono ?_
  rintro e w3 ⟨rfl, hb3⟩
  have z4 := balloc w3 (.cells #[.int .i64 bx.x0, .int .i64 bx.y0, .int .i64 bx.x1, .int .i64 bx.y1] 42)
  have Q4 := hid (bthen (bthen Q2.out hb3) z4)
  have P4 := hid (bthen (bthen P2.out hb3) z4)
  have B4 := hid (show cellB _ cb c from Blk.ext (Blk.ext B2.out hb3) z4)
  have X4 := hid ((X2.out.ext hb3).ext z4)
  have R4 := hid ((R2.out.ext hb3).ext z4)
  have Y4 := hid (Blk.new w3 #[.int .i64 bx.x0, .int .i64 bx.y0, .int .i64 bx.x1, .int .i64 bx.y1] 42)
  have hb3s := hb3.size
  clear hb3 z4 x0 x1 x2 Q2 B2 X2 R2 hbox
  have x7 := X4.out.cell 7 (v := .int .i64 n.many) rfl
  obtain ⟨r0, r1, r2, r3, rf, rz⟩ := R4.out.tfour
  go_upto_region 3 with (fail)
  generalize hw4 : w3.alloc (.cells #[.int .i64 bx.x0, .int .i64 bx.y0, .int .i64 bx.x1, .int .i64 bx.y1] 42) = w4 at *
  have hk4 : w3.heap.size < w4.heap.size := by rw [← hw4, World.size_alloc]; omega
  clear hw4
  obtain ⟨y0, y1, y2, y3, yf, yz⟩ := Y4.out.tfour
  by_cases hm0 : n.many = 0
  · have hz := hid (Tc.cntN_none htr.out ha'.out hm0 (hasP r))
    rw [hm0] at x7
    go_wp2_with fail
    go_end0
    refine ⟨rfl, ?_, Touch.of_below Q4.out⟩
    rw [hz.out]
    exact B4.out
  · have hm1 : ((n.many : Int) == 0) = false := by rw [beq_eq_false_iff_ne]; omega
    clear hm0
    go_wp2_with fail
    refine (hmeet.out _).mono ?_
    rintro e w5 ⟨rfl, hb5⟩
    have Q5 := hid (bthen Q4.out hb5)
    have P5 := hid (bthen P4.out hb5)
    have B5 := hid (show cellB _ cb c from Blk.ext B4.out hb5)
    have X5 := hid (X4.out.ext hb5)
    have R5 := hid (R4.out.ext hb5)
    have Y5 := hid (Y4.out.ext hb5)
    clear hb5 x7 r0 r1 r2 r3 rf rz y0 y1 y2 y3 yf yz Q4 B4 X4 R4 Y4
    cases hmt : boxMeets bx r with
    | false =>
      have hz := hid (Tc.cntN_out (hasP r) A n (fun x hx => out_meets hmt (hnb.out x hx)))
      clear hmt
      go_wp2_with fail
      go_end0
      refine ⟨rfl, ?_, Touch.of_below Q5.out⟩
      rw [hz.out]
      exact B5.out
    | true =>
      clear hmt
      obtain ⟨r0, r1, r2, r3, rf, rz⟩ := R5.out.tfour
      obtain ⟨y0, y1, y2, y3, yf, yz⟩ := Y5.out.tfour
      go_wp2_with fail
      refine (hin.out _).mono ?_
      rintro e w6 ⟨rfl, hb6⟩
      have Q6 := hid (bthen Q5.out hb6)
      have P6 := hid (bthen P5.out hb6)
      have B6 := hid (show cellB _ cb c from Blk.ext B5.out hb6)
      have X6 := hid (X5.out.ext hb6)
      have R6 := hid (R5.out.ext hb6)
      clear hb6 r0 r1 r2 r3 rf rz y0 y1 y2 y3 yf yz Q5 B5 X5 R5 Y5
      cases hmi : (boxHas0 r bx.x0 bx.y0 && boxHas0 r bx.x1 bx.y1) with
      | true =>
        have hz := hid (Tc.cntN_all htr.out ha'.out (hasP r) (fun x hx => all_in hr hmi (hnb.out x hx)))
        rw [hz.out] at hc
        have heach := hid (teach_all hA (N.length - a) w6 a c n (Nat.le_refl _) ha'.out (C00.out.ext Q6.out) B6.out (by omega))
        unfold tellV at heach
        clear hmi
        go_wp2_with fail
        refine heach.out.mono ?_
        rintro e w7 ⟨rfl, h7, t7⟩
        have B7 := hid h7
        have T7 := hid ((Touch.of_below (b := cb) Q6.out).trans t7)
        clear h7 t7
        go_wp2_with fail
        go_end0
        refine ⟨rfl, ?_, T7.out⟩
        rw [hz.out]
        exact B7.out
      | false =>
        clear hmi
        have x9 := X6.out.cell 9 (v := .slice vp n.l.length vc) rfl
        go_wp2_with fail
        have T6 := hid (Touch.of_below (b := cb) Q6.out)
        have hlI : (n.l.length : Int) ≤ 1000 := by omega
        have hrow6 := hid (owns_ext R0.out P6.out)
        clear Q6
        go_loopw [12, 49] (fun _ u49 wr => ∃ j : Nat, u49 = .int .i64 j ∧ j ≤ n.l.length ∧ cellB wr cb (c + ((n.l.take j).filter (hasP r)).length) ∧ Touch cb w wr ∧ Blk wr w1.heap.size (nodeArr n (.slice vp n.l.length vc)) 85 ∧ Blk wr w.heap.size #[.int .i64 r.x0, .int .i64 r.y0, .int .i64 r.x1, .int .i64 r.y1] 42 ∧ wr.ownsRow (t + 1) 40 4 (.slice vp n.l.length vc) n.l.length (recsC n.l)) (fun _ u49 _ => n.l.length - (intOf u49).toNat)
        case atStart => exact ⟨0, rfl, Nat.zero_le _, B6.out, T6.out, X6.out, R6.out, hrow6.out⟩
        case round =>
          obtain ⟨j, rfl, hj, hB, hT, hX, hR, hO⟩ := hrel
          have B7 := hid hB
          have T7 := hid hT
          have X7 := hid hX
          have R7 := hid hR
          have O7 := hid hO
          have hfl := List.length_filter_le (hasP r) (n.l.take j)
          have htl := List.length_take_le' j n.l
          have hcj : c + ((n.l.take j).filter (hasP r)).length ≤ 100000 := by omega
          clear hB hT hX hR hO B6 T6 X6 R6 x9 hfl htl
          by_cases hjl : j < n.l.length
          · obtain ⟨lg, lc, hlv, _, _, _, _⟩ := owns_block O7.out (by omega)
            cases hlv
            have hrec := hid (owns_rec O7.out rfl hjl)
            have hst := hid (filter_take (p := hasP r) hjl)
            generalize n.l[j] = x at *
            have z := balloc wr (.cells (recArr x) 40)
            have B8 := hid (show cellB _ cb _ from Blk.ext B7.out z)
            have Y8 := hid (Blk.new wr (recArr x) 40)
            have T8 := hid (T7.out.below z)
            have X8 := hid (X7.out.ext z)
            have R8 := hid (R7.out.ext z)
            have O8 := hid (owns_ext O7.out z)
            have hkx := X7.out.lt
            have hjI : (j : Int) < n.l.length := by omega
            have hhas := hid (thas_any r x.x x.y)
            unfold pointV rectV at hhas
            clear z B7 X7 R7 O7 T7
            go_upto_region 9 with (first | (refine wpList_load_at rfl 40 (.tmp 51) rfl 52 rfl lg (j * 4) (recArr x) (hrec.out) rfl Try.underlying40 rfl (by kernel_rfl) ?_) | (refine wpList_store_new rfl 40 (.tmp 12) (.tmp 52) rfl rfl wr 40 _ (recArr x) rfl rfl rfl (by kernel_rfl) rfl (recArr_one x) ?_))
            generalize hw8 : wr.alloc (.cells (recArr x) 40) = w8 at *
            have hk8 : wr.heap.size < w8.heap.size := by rw [← hw8, World.size_alloc]; omega
            clear hw8
            obtain ⟨r0, r1, r2, r3, rf, rz⟩ := R8.out.tfour
            have y1 := Y8.out.cell 1 (v := .int .i64 x.x) rfl
            have y2 : w8.cell? ⟨wr.heap.size, 1 + 1, none⟩ = some (.int .i64 x.y) := Y8.out.cell 2 rfl
            go_wp2_with fail
            refine (hhas.out _).mono ?_
            rintro e w9 ⟨rfl, hb9⟩
            have B9 := hid (show cellB _ cb _ from Blk.ext B8.out hb9)
            have Y9 := hid (Y8.out.ext hb9)
            have T9 := hid (T8.out.below hb9)
            have X9 := hid (X8.out.ext hb9)
            have R9 := hid (R8.out.ext hb9)
            have O9 := hid (owns_ext O8.out hb9)
            clear hb9 r0 r1 r2 r3 rf rz y1 y2 B8 Y8 T8 X8 R8 O8 hhas
            cases hp : Ru.boxHas r x.x x.y with
            | false =>
              have hst2 := hid (show ((n.l.take (j + 1)).filter (hasP r)).length = ((n.l.take j).filter (hasP r)).length by rw [hst.out, show hasP r x = false from hp]; simp)
              clear hp
              go_wp2_with fail
              go_roundw
              case rel => exact ⟨j + 1, by go_num, by omega, by rw [hst2.out]; exact B9.out, T9.out, X9.out, R9.out, O9.out⟩
              case measure => simp [intOf]; omega
            | true =>
              have hst2 := hid (show ((n.l.take (j + 1)).filter (hasP r)).length = ((n.l.take j).filter (hasP r)).length + 1 by rw [hst.out, show hasP r x = true from hp]; simp)
              have hcnt := hid (tcnt_any (r := x) B9.out hcj)
              clear hp
              go_wp2_with (first | (refine wpList_load_blk rfl 40 (.tmp 12) rfl 58 rfl wr.heap.size 40 (recArr x) (Y9.out) rfl Try.underlying40 rfl (by kernel_rfl) ?_))
              refine hcnt.out.mono ?_
              rintro e w10 ⟨rfl, h10, t10⟩
              have B10 := hid h10
              have T10 := hid (T9.out.trans t10)
              have X10 := hid (X9.out.touch t10 (by omega))
              have R10 := hid (R9.out.touch t10 (by omega))
              have O10 := hid (owns_other O9.out t10 hvc)
              clear h10 t10 hcnt B9 T9 X9 R9 O9 Y9
              go_wp2_with fail
              go_roundw
              case rel => exact ⟨j + 1, by go_num, by omega, by rw [hst2.out]; exact B10.out, T10.out, X10.out, R10.out, O10.out⟩
              case measure => simp [intOf]; omega
          · obtain rfl : j = n.l.length := by omega
            have ht := hid (show n.l.take n.l.length = n.l from List.take_length)
            rw [ht.out] at B7
            have x8 := X7.out.cell 8 (v := .bool n.split) rfl
            have x3 : wr.cell? ⟨w1.heap.size, 3, none⟩ = some (.int .i64 n.k0) := X7.out.cell 3 rfl
            have x4 : wr.cell? ⟨w1.heap.size, 3 + 1, none⟩ = some (.int .i64 n.k1) := X7.out.cell 4 rfl
            have x5 : wr.cell? ⟨w1.heap.size, 3 + 1 + 1, none⟩ = some (.int .i64 n.k2) := X7.out.cell 5 rfl
            have x6 : wr.cell? ⟨w1.heap.size, 3 + 1 + 1 + 1, none⟩ = some (.int .i64 n.k3) := X7.out.cell 6 rfl
            cases hs : n.split with
            | false =>
              rw [hs] at x8
              have hz := hid (Tc.cntN_leaf htr.out ha'.out hs (hasP r))
              clear hs
              go_wp2_with fail
              go_end0
              refine ⟨rfl, ?_, T7.out⟩
              rw [hz.out]
              exact B7.out
            | true =>
              rw [hs] at x8
              have hs' := hid hs
              have hnl := hid (show n.l = [] from (htr.out.shape.kids a n ha'.out hs).1)
              have hsum := hid (sum_split htr.out ha'.out hs (hasP r))
              have hix := hid (fun (j : Nat) (hj : j < 4) => index_kids n hj)
              clear hs
              go_wp2_with fail
              clear x8 x3 x4 x5 x6
              go_loopw [14, 65] (fun _ u65 wr => ∃ j : Nat, u65 = .int .i64 j ∧ j ≤ 4 ∧ cellB wr cb (c + sumM (fun q => Tc.cntN (hasP r) A (kidN N n q)) j) ∧ Touch cb w wr ∧ Blk wr w.heap.size #[.int .i64 r.x0, .int .i64 r.y0, .int .i64 r.x1, .int .i64 r.y1] 42) (fun _ u65 _ => 4 - (intOf u65).toNat)
              case atStart => exact ⟨0, rfl, Nat.zero_le _, by have h := B7.out; rw [hnl.out] at h; exact h, T7.out, R7.out⟩
              case round =>
                obtain ⟨j, rfl, hj, hB, hT, hR⟩ := hrel
                have B8 := hid hB
                have T8 := hid hT
                have R8 := hid hR
                clear hB hT hR B7 T7 X7 R7 O7
                by_cases hj4 : j < 4
                · obtain ⟨hk1, hk2, hk3⟩ := kids_of htr.out.shape ha'.out hs'.out hj4
                  have hidx := hix.out j hj4
                  rw [hk1] at hidx
                  have hle := sumM_le (fun q => Tc.cntN (hasP r) A (kidN N n q)) (show j + 1 ≤ 4 by omega)
                  have hstp : sumM (fun q => Tc.cntN (hasP r) A (kidN N n q)) (j + 1) = sumM (fun q => Tc.cntN (hasP r) A (kidN N n q)) j + Tc.cntN (hasP r) A (kidN N n j) := rfl
                  have hsm := hsum.out
                  have hcall := hid (ih'.out wr (kidK n j) (c + sumM (fun q => Tc.cntN (hasP r) A (kidN N n q)) j) (kidN N n j) (by have := (List.getElem?_eq_some_iff.1 hk3).1; omega) hk3 (C00.out.touch T8.out) B8.out (by omega))
                  have hj4I : (j : Int) < 4 := by omega
                  have hst := hid hstp
                  clear hk1 hk2 hk3 hle hstp hsm
                  generalize kidK n j = kk at *
                  generalize Tc.cntN (hasP r) A (kidN N n j) = cn at *
                  unfold tellV at hcall
                  obtain ⟨r0, r1, r2, r3, rf, rz⟩ := R8.out.tfour
                  go_wp2_with fail
                  refine hcall.out.mono ?_
                  rintro e w9 ⟨rfl, h9, t9⟩
                  have B9 := hid h9
                  have T9 := hid (T8.out.trans t9)
                  have R9 := hid (R8.out.touch t9 (by omega))
                  clear h9 t9 hcall r0 r1 r2 r3 rf rz
                  go_wp2_with fail
                  go_roundw
                  case rel => exact ⟨j + 1, by go_num, by omega, by rw [hst.out, ← Nat.add_assoc]; exact B9.out, T9.out, R9.out⟩
                  case measure => simp [intOf]; omega
                · obtain rfl : j = 4 := by omega
                  go_wp2_with fail
                  go_end0
                  refine ⟨rfl, ?_, T8.out⟩
                  have h := B8.out
                  rw [hsum.out] at h
                  exact h
theorem twin_all {t m b : Nat} {N : List Tc.Node} {A : List Tc.Rec} {O : Nat → Prop} {cb : Nat} (hA : A.length ≤ 1000) {r : Po.Box} (hr : Ru.boxR r = true) : ∀ (d : Nat) (w : World) (a c : Nat) (n : Tc.Node), N.length - a ≤ d → N[a]? = some n → Ct w t m b N A O cb → cellB w cb c → c + Tc.cntN (hasP r) A n ≤ 5000 →
      Calls Try.prog 31 #[.pointer (some ⟨t, 0, none⟩), .int .i64 a, rectV r, tellV cb] w (EachPost w cb (c + Tc.cntN (hasP r) A n)) := fun d => by
  induction d using Nat.strongRecOn with
  | _ d ih => exact fun w a c n hd ha hC hB hc => twin_step hA hr (d := d) (fun w a c n hlt ha hC hB hc => ih (N.length - a) hlt w a c n (Nat.le_refl _) ha hC hB hc) w a c n hd ha hC hB hc

end Go.Proofs.Yteddkgpnklfppaa

namespace Go.Proofs.Yteddkgpnklfppaa
open Go.RowKit Go.Sort Go.Maps

theorem tqcount_no {w : World} {t m b : Nat} {N : List Tc.Node} {A : List Tc.Rec} {O : Nat → Prop} (h : TrW w t m b N A O) {r : Po.Box} (hr : Ru.boxR r = false) :
    Calls Try.prog 11 #[.pointer (some ⟨t, 0, none⟩), rectV r] w fun e w' => e = .returned (.int .i64 0) ∧ Below w.heap.size w w' := by
  have z0 := balloc w (.cells #[.int .i64 r.x0, .int .i64 r.y0, .int .i64 r.x1, .int .i64 r.y1] 42)
  have Q0 := hid z0
  have hm := hid (tmadeN (h.ext z0))
  have R0 := hid (Blk.new w #[.int .i64 r.x0, .int .i64 r.y0, .int .i64 r.x1, .int .i64 r.y1] 42)
  have hrt := hid (fun w => tboxright_any r w)
  rw [hr] at hrt
  clear z0 h hr
  unfold rectV at *
  go_enter Try.func11, Try.ntmps11
  go_wp2_with fail
  refine hm.out.mono ?_
  rintro e w1 ⟨rfl, rfl⟩
  obtain ⟨r0, r1, r2, r3, rf, rz⟩ := R0.out.tfour
  go_wp2_with fail
  refine (hrt.out _).mono ?_
  rintro e w1 ⟨rfl, hb1⟩
  have Q1 := hid (bthen Q0.out hb1)
  clear hb1 r0 r1 r2 r3 rf rz
  go_wp2_with fail
  go_ret
  exact ⟨rfl, Q1.out⟩
set_option maxRecDepth 100000 in
set_option maxHeartbeats 4000000 in
theorem tqcount_yes {w : World} {t m b : Nat} {N : List Tc.Node} {A : List Tc.Rec} {O : Nat → Prop} (h : TrW w t m b N A O) (hA : A.length ≤ 1000) {r : Po.Box} (hr : Ru.boxR r = true) :
    Calls Try.prog 11 #[.pointer (some ⟨t, 0, none⟩), rectV r] w fun e w' => e = .returned (.int .i64 (A.filter (hasP r)).length) ∧ Below w.heap.size w w' := by
  have z0 := balloc w (.cells #[.int .i64 r.x0, .int .i64 r.y0, .int .i64 r.x1, .int .i64 r.y1] 42)
  have Q0 := hid z0
  have T0 := hid (h.ext z0)
  have hm := hid (tmadeN (h.ext z0))
  have R0 := hid (Blk.new w #[.int .i64 r.x0, .int .i64 r.y0, .int .i64 r.x1, .int .i64 r.y1] 42)
  have hrt := hid (fun w => tboxright_any r w)
  rw [hr] at hrt
  obtain ⟨n, hn, _⟩ := h.tree.root
  have hn' := hid hn
  have hsum := hid (Tc.cntN_root h.tree hn (hasP r))
  have hle := hid (List.length_filter_le (hasP r) A)
  have hr' := hid hr
  clear z0 h hr hn
  unfold rectV at *
  go_enter Try.func11, Try.ntmps11
  go_wp2_with fail
  refine hm.out.mono ?_
  rintro e w1 ⟨rfl, rfl⟩
  obtain ⟨r0, r1, r2, r3, rf, rz⟩ := R0.out.tfour
  go_wp2_with fail
  refine (hrt.out _).mono ?_
  rintro e w1 ⟨rfl, hb1⟩
  have Q1 := hid (bthen Q0.out hb1)
  have T1 := hid (T0.out.ext hb1)
  have R1 := hid (R0.out.ext hb1)
  clear hb1 r0 r1 r2 r3 rf rz Q0 T0 R0 hm
  go_upto_region 4 with (fail)
  have z2 := balloc w1 (.cells #[.int .i64 0] 3)
  have B2 : Hid (cellB (w1.alloc (.cells #[.int .i64 0] 3)) w1.heap.size 0) := hid (show Blk _ _ #[.int .i64 ((0 : Nat) : Int)] _ from Blk.new w1 #[.int .i64 0] 3)
  have T2 := hid (T1.out.ext z2)
  have R2 := hid (R1.out.ext z2)
  have Q2 := hid (bthen Q1.out z2)
  generalize hw2 : w1.alloc (.cells #[.int .i64 0] 3) = w2 at *
  have hk2 : w1.heap.size < w2.heap.size := by rw [← hw2, World.size_alloc]; omega
  have C2 := hid (show Ct w2 t m b N A O w1.heap.size from ⟨T2.out, by
    have h1 := T1.out.mem.lt
    have h2 := T1.out.ord
    refine ⟨by omega, by omega, fun e => ?_⟩
    have := (T1.out.mem.bd _ e).2
    omega⟩)
  have hwin := hid (twin_all hA hr'.out N.length w2 0 0 n (by omega) hn'.out C2.out B2.out (by rw [hsum.out]; have := hle.out; omega))
  rw [hsum.out, Nat.zero_add] at hwin
  unfold tellV rectV at hwin
  have hq1 := Q1.out.size
  clear hw2 z2 T1 R1
  obtain ⟨r0, r1, r2, r3, rf, rz⟩ := R2.out.tfour
  go_wp2_with fail
  refine hwin.out.mono ?_
  rintro e w3 ⟨rfl, h3, t3⟩
  have hB3 := hid (show Blk w3 w1.heap.size #[.int .i64 (A.filter (hasP r)).length] 3 from h3)
  have Q3 := hid (Q2.out.trans (t3.to_below Q2.out.size hq1))
  have c3 := h3.cell 0 (v := .int .i64 (A.filter (hasP r)).length) rfl
  clear h3 t3 hwin r0 r1 r2 r3 rf rz
  go_wp2_with fail
  go_ret
  exact ⟨rfl, Q3.out⟩

end Go.Proofs.Yteddkgpnklfppaa
