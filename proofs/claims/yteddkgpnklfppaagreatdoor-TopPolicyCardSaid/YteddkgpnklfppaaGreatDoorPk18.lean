/-
  The walk of the checker's rule.
-/
import Derived.Test.YteddkgpnklfppaaGreatDoorPk17
import Derived.Deep.RegionLaw

namespace Go.Proofs.YteddkgpnklfppaaGreatDoor
open Go.RowKit Go.Sort Go.Maps

theorem Tryz.infoRule : (Tryz.prog.info? 56).map (fun i => (i.zero, i.size, i.bytes)) = some (some (.agg (ruleArr ⟨0, 0, 0, 0, 0, [], 0⟩ (.slice none 0 0))), 7, 72) := by kernel_rfl
theorem rulesCells_snoc {rs : List Ru.Rule} {vs : List Value} (h : vs.length = rs.length) (r : Ru.Rule) (v : Value) : rulesCells (rs ++ [r]) (vs ++ [v]) = rulesCells rs vs ++ (ruleArr r v).toList := by
  unfold rulesCells
  rw [List.zip_append h.symm]
  simp
theorem get_snoc {α : Type} {l : List α} {a b : α} {i : Nat} (h : (l ++ [a])[i]? = some b) : l[i]? = some b ∨ i = l.length ∧ b = a := by
  rcases Nat.lt_or_ge i l.length with hi | hi
  · rw [List.getElem?_append_left hi] at h; exact .inl h
  · rw [List.getElem?_append_right hi] at h
    rcases Nat.eq_zero_or_pos (i - l.length) with h0 | h0
    · rw [h0] at h
      simp only [List.getElem?_cons_zero, Option.some.injEq] at h
      exact .inr ⟨by omega, h.symm⟩
    · rw [List.getElem?_eq_none (by simp; omega)] at h; cases h
section
variable {w w' : World} {bo b1 b2 br c : Nat} {ahead : List Po.Decl} {rules : List Ru.Rule} {rv rv' : Value} {vs : List Value} {rg : ByteArray → Value} {d : Po.Decl}
/-- a rule more -/
theorem Inner.rule (h : Inner w bo b1 b2 br c ahead rules rv vs rg) {r : Ru.Rule} {v : Value} (hv : Row w v r.boxes.length 4 (boxesCells r.boxes)) (hs : r.boxes.length * 32 ≤ 140737488355328) (hc : ∀ b, v.ownBlock = some b → c < b ∧ rv.ownBlock ≠ some b)
    (hown : w'.ownsRow (c + 1) 56 7 rv' (rules.length + 1) (rulesCells rules vs ++ (ruleArr r v).toList)) (hg : w.grownBy w' rv.ownBlock) (hat : rv'.ownBlock = rv.ownBlock ∨ rv'.ownBlock = some w.heap.size) :
    Inner w' bo b1 b2 br c ahead (rules ++ [r]) rv' (vs ++ [v]) rg := by
  obtain ⟨o1, o2, o3, o4, o5⟩ := h.ord
  have hsz := hg.size
  have hlow : ∀ b, b ≤ c → some b ≠ rv.ownBlock := fun b hb e => by have := (h.own.lt b e.symm).1; omega
  have key : ∀ (y : Value) {n : Nat} {xs : List Value}, Row w y n 4 xs → (∀ b, y.ownBlock = some b → c < b ∧ rv.ownBlock ≠ some b) → Row w' y n 4 xs ∧ ∀ b, y.ownBlock = some b → c < b ∧ rv'.ownBlock ≠ some b := by
    intro y n xs hy hb
    refine ⟨hy.grown hg (fun b e => (hb b e).2), fun b e => ⟨(hb b e).1, ?_⟩⟩
    rcases hat with e2 | e2
    · rw [e2]; exact (hb b e).2
    · rw [e2]; intro e3; simp only [Option.some.injEq] at e3; have := hy.own_lt e; omega
  refine ⟨⟨o1, o2, o3, o4, by omega⟩, h.outer.grown hg (hlow _ (by omega)), h.nums1.grown hg (hlow _ (by omega)), h.nums2.grown hg (hlow _ (by omega)), h.regs.grown hg (hlow _ (by omega)), ?_, by simp [h.len], ?_, ?_⟩
  · intro nm x hx
    obtain ⟨r1, r2, r3⟩ := h.rows nm x hx
    obtain ⟨k1, k2⟩ := key _ r1 r3
    exact ⟨k1, r2, k2⟩
  · rw [rulesCells_snoc h.len, List.length_append]; exact hown
  · intro i r' y hr hy
    rcases get_snoc hr with hr | ⟨hi, rfl⟩
    · rcases get_snoc hy with hy | ⟨hi2, _⟩
      · obtain ⟨r1, r2, r3⟩ := h.box i r' y hr hy
        obtain ⟨k1, k2⟩ := key _ r1 r3
        exact ⟨k1, r2, k2⟩
      · have h1 := (List.getElem?_eq_some_iff.1 hr).1
        rw [hi2, h.len] at h1
        omega
    · rcases get_snoc hy with hy | ⟨_, rfl⟩
      · have h1 := (List.getElem?_eq_some_iff.1 hy).1
        rw [hi, h.len] at h1
        omega
      · obtain ⟨k1, k2⟩ := key _ hv hc
        exact ⟨k1, hs, k2⟩
end

/-- what stands in the course of rule: all of it goes back to the world at the call -/
structure RuI (w : World) (bo br c : Nat) (k0 k : Ru.Ck) (rv : Value) (d : Po.Decl) (x : Value) (wx : World) : Prop where
  blk : Blk wx c (ckCells bo br k rv) 106
  rul : k.rules = k0.rules
  dec : Blk wx w.heap.size (declCells d x) 83
  tch : Touch c w wx
section
variable {w wx wy : World} {bo b1 b2 br c : Nat} {ahead : List Po.Decl} {k0 k k' : Ru.Ck} {rv : Value} {d : Po.Decl} {x : Value}
theorem RuI.chk (h : RuI w bo br c k0 k rv d x wx) (h0 : Chk w bo b1 b2 br c ahead k0 rv) : Chk wx bo b1 b2 br c ahead k rv :=
  ⟨h.blk, by obtain ⟨vs, rg, hi⟩ := h0.inn; exact ⟨vs, rg, by rw [h.rul]; exact hi.touch h.tch⟩⟩
theorem wrong_rules (k : Ru.Ck) (e l p : Int) : (k.wrong e l p).rules = k.rules := by unfold Ru.Ck.wrong; split <;> rfl
theorem wrongIf_rules (k : Ru.Ck) (e l p : Int) : (k.wrongIf e l p).rules = k.rules := by unfold Ru.Ck.wrongIf; split; rfl; exact wrong_rules _ _ _ _
theorem wrong_boxes (k : Ru.Ck) (e l p : Int) : (k.wrong e l p).boxes = k.boxes := by unfold Ru.Ck.wrong; split <;> rfl
theorem wrongIf_boxes (k : Ru.Ck) (e l p : Int) : (k.wrongIf e l p).boxes = k.boxes := by unfold Ru.Ck.wrongIf; split; rfl; exact wrong_boxes _ _ _ _
theorem RuI.step (h : RuI w bo br c k0 k rv d x wx) (hn : w.heap.size ≠ c) (h2 : Chk wy bo b1 b2 br c ahead k' rv) (hr : k'.rules = k.rules) (ht : Touch c wx wy) : RuI w bo br c k0 k' rv d x wy :=
  ⟨h2.blk, hr.trans h.rul, h.dec.touch ht hn, h.tch.trans ht⟩
theorem RuI.ext (h : RuI w bo br c k0 k rv d x wx) (hb : Below wx.heap.size wx wy) : RuI w bo br c k0 k rv d x wy := ⟨h.blk.ext hb, h.rul, h.dec.ext hb, h.tch.below hb⟩
theorem RuI.set (h : RuI w bo br c k0 k rv d x wx) (hc : c < w.heap.size) {rb : Nat} (hrb : w.heap.size < rb) (o : Nat) (u : Value) : RuI w bo br c k0 k rv d x (wx.setCell ⟨rb, o, none⟩ u) :=
  ⟨h.blk.setOther (by omega) o u, h.rul, h.dec.setOther (by omega) o u, h.tch.setNew (by omega) o u⟩
end
/-- the end: the rule stands behind all -/
theorem rule_done {w wx wy w5 : World} {bo b1 b2 br c : Nat} {ahead : List Po.Decl} {k0 k K : Ru.Ck} {rv rv' v : Value} {vs : List Value} {rg : ByteArray → Value} {d : Po.Decl} {x : Value} {r : Ru.Rule} (_h0 : Chk w bo b1 b2 br c ahead k0 rv) (hI : RuI w bo br c k0 k rv d x wx)
    (hb : Below wx.heap.size wx wy) (hg : wy.grownBy w5 rv.ownBlock) (hv : Row wx v r.boxes.length 4 (boxesCells r.boxes)) (hs : r.boxes.length * 32 ≤ 140737488355328) (hvb : ∀ b, v.ownBlock = some b → w.heap.size ≤ b)
    (hi : Inner w bo b1 b2 br c ahead k0.rules rv vs rg) (hown : w5.ownsRow (c + 1) 56 7 rv' (k0.rules.length + 1) (rulesCells k0.rules vs ++ (ruleArr r v).toList)) (hat : rv'.ownBlock = rv.ownBlock ∨ rv'.ownBlock = some wy.heap.size)
    (h1 : d.kind ≠ 1) (h2 : d.kind ≠ 2) (h3 : d.kind ≠ 3) (hK : K = { k with rules := k0.rules ++ [r] }) : CkPost w bo b1 b2 br c ahead d K (.returned (.tuple #[])) (w5.setCell ⟨c, 2, none⟩ rv') := by
  subst hK
  obtain ⟨o1, o2, o3, o4, o5⟩ := hi.ord
  have hrv : ∀ b, rv.ownBlock = some b → c < b ∧ b < w.heap.size := fun b hb => ⟨by have := (hi.own.lt b hb).1; omega, (hi.own.lt b hb).2⟩
  have hty : Touch c w wy := hI.tch.below hb
  have hr := Inner.rule (hi.touch hty) (hv.ext hb) hs (fun b e => ⟨by have := hvb b e; omega, fun e2 => by have := hvb b e; have := (hrv b e2).2; omega⟩) hown hg hat
  have hset : Touch c w5 (w5.setCell ⟨c, 2, none⟩ rv') := (Touch.refl c w5).setCell 2 rv'
  refine ⟨rfl, ?_, ahead ++ [d], rv', ⟨?_, vs ++ [v], rg, (hr.touch hset).lift h1 h2 h3⟩, fun _ => rfl⟩
  · have q1 : Below bo w wy := hty.to_below (by omega) (by omega)
    have q2 : Below bo w w5 := q1.grown hg (by have := hty.size; omega) (fun b e => by have := (hrv b e).1; omega)
    exact q2.trans (hset.to_below (by have := q2.size; omega) (by omega))
  · have := ((hI.blk.ext hb).grown hg (fun e => by have := (hrv c e).1; omega)).set 2 rv'
    exact this
/-- what the making of the rule reads -/
theorem roleS {w : World} {b : Nat} {D : Po.Decl} {V : Value} {t : TypeId} (h : Blk w b (declCells D V) t) : w.cell? ⟨b, 0, none⟩ = some (.int .i64 D.kind) ∧ w.cell? ⟨b, 4, none⟩ = some (.bool D.role.any) ∧ w.cell? ⟨b, 4 + 1, none⟩ = some (.string D.role.name) ∧
    w.cell? ⟨b, 4 + 1 + 1, none⟩ = some (.int .i64 D.role.n) ∧ w.cell? ⟨b, 4 + 1 + 1 + 1, none⟩ = some (.int .i64 D.role.line) ∧ w.cell? ⟨b, 4 + 1 + 1 + 1 + 1, none⟩ = some (.int .i64 D.role.col) :=
  ⟨h.cell 0 rfl, h.cell 4 rfl, h.cell 5 rfl, h.cell 6 rfl, h.cell 7 rfl, h.cell 8 rfl⟩

theorem rbS {w : World} {b : Nat} {r : Ru.Rule} {v : Value} {t : TypeId} (h : Blk w b (ruleArr r v) t) : w.cell? ⟨b, 0, none⟩ = some (.int .i64 r.kind) ∧ w.cell? ⟨b, 1, none⟩ = some (.int .i64 r.roles) ∧ w.cell? ⟨b, 1 + 1, none⟩ = some (.int .i64 r.lo) ∧ w.cell? ⟨b, 1 + 1 + 1, none⟩ = some (.int .i64 r.hi) ∧
    w.cell? ⟨b, 1 + 1 + 1 + 1, none⟩ = some (.int .i64 r.labels) ∧ w.cell? ⟨b, 1 + 1 + 1 + 1 + 1, none⟩ = some v ∧ w.cell? ⟨b, 1 + 1 + 1 + 1 + 1 + 1, none⟩ = some (.int .i64 r.zoom) :=
  ⟨h.cell 0 rfl, h.cell 1 rfl, h.cell 2 rfl, h.cell 3 rfl, h.cell 4 rfl, h.cell 5 rfl, h.cell 6 rfl⟩

set_option maxRecDepth 100000 in
set_option maxHeartbeats 4000000 in
theorem crule_any {w : World} {bo b1 b2 br c : Nat} {ahead : List Po.Decl} {k : Ru.Ck} {rv : Value} (h : Chk w bo b1 b2 br c ahead k rv) (h0 : k.f.1 = 0) (hkb : 0 ≤ k.boxes ∧ k.boxes ≤ 32) (hkr : k.rules.length ≤ 32) (d : Po.Decl) (x : Value) (hk1 : d.kind ≠ 1) (hk2 : d.kind ≠ 2) (hk3 : d.kind ≠ 3)
    (hs1 : d.role.name.size ≤ 140737488355328) (hs2 : d.label.name.size ≤ 140737488355328) (hs3 : d.place.name.size ≤ 140737488355328) (hp1 : d.role.any = false → 0 ≤ Ru.whoN ahead 1 d.role) (hp2 : d.label.any = false → 0 ≤ Ru.whoN ahead 2 d.label) :
    Calls Tryz.prog 66 #[.pointer (some ⟨c, 0, none⟩), .agg (declCells d x)] w (CkPost w bo b1 b2 br c ahead d (Ru.ckRule ahead k d)) := by
  obtain ⟨i0, hinf, hiz, hisz, hiby⟩ := info_parts Tryz.infoRule
  obtain ⟨rp, rc, rfl⟩ : ∃ rp rc, rv = .slice rp k.rules.length rc := by
    obtain ⟨vs, rg, hi⟩ := h.inn
    exact row_shape (Row.of_owns hi.own)
  have hrvlt : Hid (∀ b, (Value.slice rp k.rules.length rc).ownBlock = some b → b < w.heap.size) := by
    obtain ⟨vs, rg, hi⟩ := h.inn
    exact hid (fun b hb => (hi.own.lt b hb).2)
  have hz := balloc w (.cells (declCells d x) 83)
  have I1 := hid (show RuI w bo br c k k _ d x _ from ⟨(h.ext hz).blk, rfl, Blk.new w (declCells d x) 83, Touch.of_below hz⟩)
  have hc := h.blk.lt
  have hne : w.heap.size ≠ c := by omega
  have hne' : c ≠ w.heap.size := by omega
  obtain ⟨c0, c1, c2, c3, c4, c5, c6, hf, hlt⟩ := h.f
  have hord := hid h.ord
  have hpre := hid (And.intro h0 (And.intro hkb (And.intro hkr (And.intro hk1 (And.intro hk2 hk3)))))
  have hss := hid (And.intro hs1 (And.intro hs2 (And.intro hs3 (And.intro hp1 hp2))))
  clear hz h0 hkb hk1 hk2 hk3 hs1 hs2 hs3 hp1 hp2
  generalize hkl : Ru.ckLong k d = kl
  have hkl' := hid hkl
  clear hkl
  go_enter Tryz.func66, Tryz.ntmps66
  go_upto_if 10 with (fail)
  go_cut [] (fun wx => RuI w bo br c k kl (.slice rp k.rules.length rc) d x wx)
  case first =>
    by_cases hL : k.rules.length = 32
    · have e := hid (show Ru.ckLong k d = k.wrong 2 d.line d.col by unfold Ru.ckLong; rw [if_pos hL])
      have hb1 : ((k.rules.length : Int) == 32) = true := by rw [hL]; rfl
      go_wp2_with (first | (refine wpList_load_at rfl 31 (.tmp 12) rfl 13 rfl w.heap.size (22) (#[.int .i64 d.line, .int .i64 d.col]) (range_pos I1.out.dec) rfl Tryz.underlying31 rfl (by kernel_rfl) ?_))
      refine (cwrong_any (I1.out.chk h) _ _ _).mono ?_
      rintro en w3 ⟨rfl, h3, t3⟩
      have h3' := hid (I1.out.step hne h3 (wrong_rules _ _ _ _) t3)
      clear h3 t3
      go_wp2_with fail
      go_meet
      case rel => rw [← hkl'.out, e.out]; exact h3'.out
    · have e := hid (show Ru.ckLong k d = k by unfold Ru.ckLong; rw [if_neg hL])
      have hb1 : ((k.rules.length : Int) == 32) = false := by rw [beq_eq_false_iff_ne]; omega
      go_wp2_with fail
      go_meet
      case rel => rw [← hkl'.out, e.out]; exact I1.out
  case rest =>
    have I2 := hid hcut
    clear hcut c0 c1 c2 c3 c4 c5 c6 hf I1
    have hS2 := roleS I2.out.dec
    have hS2' := roleS (Blk.drew I2.out.dec)
    have hwl := I2.out.tch.size
    have hbl := I2.out.dec.lt
    have nrb : wc.heap.size ≠ w.heap.size := by omega
    have nrb' : w.heap.size ≠ wc.heap.size := by omega
    have ncb : wc.heap.size ≠ c := by omega
    go_wp2_with fail
    go_cut [4] (fun s4 wx => ∃ rb, s4 = .pointer (some ⟨rb, 0, none⟩) ∧ w.heap.size < rb ∧ Blk wx rb (ruleArr ⟨d.kind, Ru.setN ahead 1 d.role, 0, 0, 0, [], 0⟩ (.slice none 0 0)) 56 ∧ RuI w bo br c k (kl.wrongIf (Ru.setE ahead 1 d.role) d.role.line d.role.col) (.slice rp k.rules.length rc) d x wx)
    case first =>
      go_region_held3 (fun w' => w'.cell? ⟨w.heap.size, 0, none⟩ = some (.int .i64 d.kind) ∧ w'.cell? ⟨w.heap.size, 4, none⟩ = some (.bool d.role.any) ∧ w'.cell? ⟨w.heap.size, 4 + 1, none⟩ = some (.string d.role.name) ∧
        w'.cell? ⟨w.heap.size, 4 + 1 + 1, none⟩ = some (.int .i64 d.role.n) ∧ w'.cell? ⟨w.heap.size, 4 + 1 + 1 + 1, none⟩ = some (.int .i64 d.role.line) ∧ w'.cell? ⟨w.heap.size, 4 + 1 + 1 + 1 + 1, none⟩ = some (.int .i64 d.role.col)) (first | with_reducible assumption | go_keep) (first
        | ((go_at_call 106
            refine (cset_any (w := wc.drew) ((I2.out.chk h).drewN 1) (.inl rfl) d.role hss.out.1 hss.out.2.2.2.1).mono ?_
            rintro en w3 ⟨rfl, h3, t3⟩
            have I3 := hid (RuI.step (wx := wc) I2.out hne h3 (wrongIf_rules _ _ _ _) (Touch.trans (Touch.refl c wc).drew t3))
            have S3 := roleS I3.out.dec
            have nrb3 : w3.heap.size ≠ w.heap.size := by have := I3.out.dec.lt; omega
            clear h3 t3))
        | ((go_at_call 106
            refine (cset_any (w := wc.drew.alloc (.cells (ruleArr ⟨0, 0, 0, 0, 0, [], 0⟩ (.slice none 0 0)) 56)) (((I2.out.chk h).drewN 1).ext (balloc _ _)) (.inl rfl) d.role hss.out.1 hss.out.2.2.2.1).mono ?_
            rintro en w3 ⟨rfl, h3, t3⟩
            have I3 := hid (RuI.step (wx := wc) I2.out hne h3 (wrongIf_rules _ _ _ _) (Touch.trans ((Touch.refl c wc).drew.alloc _) t3))
            have S3 := roleS I3.out.dec
            have R3 := hid (show Blk w3 wc.heap.size (ruleArr ⟨0, 0, 0, 0, 0, [], 0⟩ (.slice none 0 0)) 56 from Blk.touch (Blk.new wc.drew (ruleArr ⟨0, 0, 0, 0, 0, [], 0⟩ (.slice none 0 0)) 56) t3 ncb)
            obtain ⟨r0, r1, r2, r3, r4, r5, r6, rf, rz⟩ := R3.out.seven
            clear h3 t3)))
      · go_wp2_with fail
        go_meet
        case rel => exact ⟨_, rfl, I3.out.dec.lt, Blk.new w3 _ _, I3.out.ext (balloc w3 _)⟩
      · go_wp2_with fail
        go_meet
        case rel => exact ⟨_, rfl, hbl, ((((((R3.out.set 0 _).set 1 _).set 2 _).set 3 _).set 4 _).set 5 _).set 6 _, ((((((I3.out.set hc hbl 0 _).set hc hbl 1 _).set hc hbl 2 _).set hc hbl 3 _).set hc hbl 4 _).set hc hbl 5 _).set hc hbl 6 _⟩
    case rest =>
      obtain ⟨rb, rfl, hrb, hR, hI⟩ := hcut
      have hkr : Hid (kl.wrongIf (Ru.setE ahead 1 d.role) d.role.line d.role.col = Ru.ckRole ahead k d) := by rw [← hkl'.out]; exact hid rfl
      rw [hkr.out] at hI
      generalize hkr2 : Ru.ckRole ahead k d = kr at *
      have hkr3 := hid hkr2
      have R3 := hid hR
      have I3 := hid hI
      clear hR hI I2 hS2 hS2' nrb nrb' ncb hbl hwl hkr2 hkr
      have q0 : wc.cell? ⟨w.heap.size, 0, none⟩ = some (.int .i64 d.kind) := I3.out.dec.cell 0 rfl
      by_cases h6 : d.kind = 6
      · have hb6 : (d.kind == 6) = true := beq_iff_eq.2 h6
        have hSr := rbS R3.out
        have hSr' := rbS (Blk.drew R3.out)
        obtain ⟨vs, rg, hi0⟩ := h.inn
        have hi := hid (hi0.touch I3.out.tch)
        have hi0' := hid hi0
        clear hi0
        have C3 := hid I3.out.blk
        have cc2 : wc.cell? ⟨c, 2, none⟩ = some (.slice rp k.rules.length rc) := I3.out.blk.cell 2 rfl
        go_wp2_with fail
        have h6' := hid h6
        clear h6 hb6 q0
        have e := hid (show Ru.ckRule ahead k d = { kr with rules := k.rules ++ [⟨d.kind, Ru.setN ahead 1 d.role, 0, 0, 0, [], 0⟩] } by unfold Ru.ckRule; rw [if_pos h6'.out]; unfold Ru.ckCloak; rw [hkr3.out])
        have hcr : c ≠ rb := by omega
        have hrc : rb ≠ c := by omega
        have nlen : k.rules.length + 1 ≤ maxLen := by unfold maxLen; omega
        have nby : (k.rules.length + 1) * 72 ≤ 140737488355328 := by omega
        have hal := hid ((hi.out.ext (Below.refl _ _).drew).own.alloc (.cells (ruleArr ⟨d.kind, Ru.setN ahead 1 d.role, 0, 0, 0, [], 0⟩ (.slice none 0 0)) 56))
        have hc1 := hid (cells_new wc.drew (ruleArr ⟨d.kind, Ru.setN ahead 1 d.role, 0, 0, 0, [], 0⟩ (.slice none 0 0)).toList 56 (k := wc.heap.size) rfl)
        have hone : Hid (∀ u ∈ (ruleArr ⟨d.kind, Ru.setN ahead 1 d.role, 0, 0, 0, [], 0⟩ (.slice none 0 0)).toList, u.oneCell' = true) := hid (fun u hu => (Array.all_eq_true_iff_forall_mem.1 (ruleArr_one _ rfl)) u (by simpa using hu))
        have hwy := hid ((Below.refl wc.heap.size wc).drew.trans (balloc wc.drew (.cells (ruleArr ⟨d.kind, Ru.setN ahead 1 d.role, 0, 0, 0, [], 0⟩ (.slice none 0 0)) 56)))
        have hcl := C3.out.lt
        have hba := hid (show c + 1 ≤ (wc.drew.alloc (.cells (ruleArr ⟨d.kind, Ru.setN ahead 1 d.role, 0, 0, 0, [], 0⟩ (.slice none 0 0)) 56)).heap.size by rw [World.size_alloc]; exact Nat.le_succ_of_le hcl)
        have C4 := hid (C3.out.ext hwy.out)
        have R4 := hid (R3.out.ext hwy.out)
        go_region_law (
          (refine step_append_lies _ rfl _ _ 28 rfl (c + 1) 56 i0 _ 7 72 Tryz.underlying28 hinf hiz hisz hiby rfl (by decide) _ _ _ rfl hal.out ⟨wc.heap.size, 0, none⟩ 1 1 (ruleArr ⟨d.kind, Ru.setN ahead 1 d.role, 0, 0, 0, [], 0⟩ (.slice none 0 0)).toList rfl rfl hc1.out hone.out (by decide) nlen nby hba.out _ rfl ?_
           intro g5 cap5 w5 hown5 hgrow hat5 hlt5
           have hfin := hid (rule_done h I3.out hwy.out hgrow (r := ⟨d.kind, Ru.setN ahead 1 d.role, 0, 0, 0, [], 0⟩) (Row.nil _ 4) (by show 0 * 32 ≤ 140737488355328; decide) (fun b hb => by simp [Value.ownBlock] at hb) hi0'.out hown5 (by rcases hat5 with e2 | e2; exact .inl e2.symm; exact .inr (by rw [e2]; rfl)) hpre.out.2.2.2.1 hpre.out.2.2.2.2.1 hpre.out.2.2.2.2.2 e.out)
           have C5 := C4.out.grown hgrow (own_ne hal.out (Nat.lt_succ_self _))
           have R5 := R4.out.grown hgrow (fun e2 => by have := hrvlt.out _ e2; omega)
           have S5 := rbS R5
           have cc5 : w5.cell? ⟨c, 2, none⟩ = some (.slice rp k.rules.length rc) := C5.cell 2 rfl
           have cf5 := C5.free
           have S6 := rbS (R5.setOther hrc 2 (.slice (some ⟨g5, 0, none⟩) (k.rules.length + 1) cap5))
           clear hown5 hgrow hat5 hlt5 C5 R5))
        all_goals (go_wp2_with fail; go_end0; exact hfin.out)
      · have hb6 : (d.kind == 6) = false := beq_eq_false_iff_ne.2 h6
        have q9 : wc.cell? ⟨w.heap.size, 9, none⟩ = some (.int .i64 d.lo) := I3.out.dec.cell 9 rfl
        have q10 : wc.cell? ⟨w.heap.size, 10, none⟩ = some (.int .i64 d.hi) := I3.out.dec.cell 10 rfl
        go_upto_region 6 with (fail)
        go_cut [44] (fun s44 wx => s44 = .bool (decide (d.hi < d.lo ∨ 7 < d.hi)) ∧ wx = wc)
        case first =>
          by_cases t1 : d.hi < d.lo
          · go_wp2_with fail
            go_meet
            case rel => exact ⟨by simp [t1], rfl⟩
          · by_cases t2 : 7 < d.hi
            · go_wp2_with fail
              go_meet
              case rel => exact ⟨by simp [t2], rfl⟩
            · go_wp2_with fail
              go_meet
              case rel => exact ⟨by simp [t1, t2], rfl⟩
        case rest =>
          obtain ⟨rfl, rfl⟩ := hcut
          go_upto_if 44 with (fail)
          clear q0 q9 q10
          go_cut [] (fun wx => Blk wx rb (ruleArr ⟨d.kind, Ru.setN ahead 1 d.role, 0, 0, 0, [], 0⟩ (.slice none 0 0)) 56 ∧ RuI w bo br c k (Ru.ckTier ahead k d) (.slice rp k.rules.length rc) d x wx)
          case first =>
            by_cases ht : d.hi < d.lo ∨ 7 < d.hi
            · have e := hid (show Ru.ckTier ahead k d = kr.wrong 33 d.line d.col by unfold Ru.ckTier; rw [if_pos ht, hkr3.out])
              have hb7 : decide (d.hi < d.lo ∨ 7 < d.hi) = true := decide_eq_true ht
              rw [hb7]
              clear hb7 ht
              go_wp2_with (first | (refine wpList_load_at rfl 31 (.tmp 46) rfl 47 rfl w.heap.size (22) (#[.int .i64 d.line, .int .i64 d.col]) (range_pos I3.out.dec) rfl Tryz.underlying31 rfl (by kernel_rfl) ?_))
              refine (cwrong_any (I3.out.chk h) _ _ _).mono ?_
              rintro en w4 ⟨rfl, h4, t4⟩
              have I4 := hid (I3.out.step hne h4 (wrong_rules _ _ _ _) t4)
              have R4 := hid (R3.out.touch t4 (by omega))
              clear h4 t4
              go_wp2_with fail
              go_meet
              case rel => rw [e.out]; exact ⟨R4.out, I4.out⟩
            · have e := hid (show Ru.ckTier ahead k d = kr by unfold Ru.ckTier; rw [if_neg ht, hkr3.out])
              have hb7 : decide (d.hi < d.lo ∨ 7 < d.hi) = false := decide_eq_false ht
              rw [hb7]
              clear hb7 ht
              go_wp2_with fail
              go_meet
              case rel => rw [e.out]; exact ⟨R3.out, I3.out⟩
          case rest =>
            have R4 := hid hcut.1
            have I4 := hid hcut.2
            clear hcut R3 I3
            have hcr : c ≠ rb := by omega
            have hdr : w.heap.size ≠ rb := by omega
            have hrd : rb ≠ w.heap.size := by omega
            have q9 : wc.cell? ⟨w.heap.size, 9, none⟩ = some (.int .i64 d.lo) := I4.out.dec.cell 9 rfl
            have q10 : wc.cell? ⟨w.heap.size, 10, none⟩ = some (.int .i64 d.hi) := I4.out.dec.cell 10 rfl
            have r2 : wc.cell? ⟨rb, 2, none⟩ = some (.int .i64 0) := R4.out.cell 2 rfl
            have r3 : wc.cell? ⟨rb, 3, none⟩ = some (.int .i64 0) := R4.out.cell 3 rfl
            have rf := R4.out.free
            go_wp2_with fail
            go_cut [] (fun wx => Blk wx rb (ruleArr ⟨d.kind, Ru.setN ahead 1 d.role, d.lo, d.hi, 0, [], 0⟩ (.slice none 0 0)) 56 ∧ RuI w bo br c k (Ru.ckTier ahead k d) (.slice rp k.rules.length rc) d x wx)
            case first =>
              go_region_held3 (fun w' => w'.cell? ⟨w.heap.size, 9, none⟩ = some (.int .i64 d.lo) ∧ w'.cell? ⟨w.heap.size, 10, none⟩ = some (.int .i64 d.hi)) (go_keep) (fail)
              go_wp2_with fail
              go_meet
              case rel => exact ⟨(R4.out.drew.set 2 _).set 3 _, (((I4.out.ext (Below.refl _ _).drew).set hc hrb 2 _).set hc hrb 3 _)⟩
            case rest =>
              have R5 := hid hcut.1
              have I5 := hid hcut.2
              clear hcut R4 I4 q9 q10 r2 r3 rf
              go_upto_region 9 with (fail)
              go_wp2_with (first | (refine wpList_load_at rfl 81 (.tmp 56) rfl 57 rfl w.heap.size (11) (whoArr d.label) (range_label I5.out.dec) rfl Tryz.underlying81 rfl (by kernel_rfl) ?_))
              refine (cset_any (I5.out.chk h) (.inr rfl) d.label hss.out.2.1 hss.out.2.2.2.2).mono ?_
              rintro en w6 ⟨rfl, h6b, t6⟩
              have I6 := hid (show RuI w bo br c k (Ru.ckLabel ahead k d) (.slice rp k.rules.length rc) d x w6 from I5.out.step hne h6b (wrongIf_rules _ _ _ _) t6)
              have R6 := hid (R5.out.touch t6 (by omega))
              have r4 : w6.cell? ⟨rb, 4, none⟩ = some (.int .i64 0) := R6.out.cell 4 rfl
              have rf := R6.out.free
              clear h6b t6 I5 R5
              go_upto_region 10 with (fail)
              have R7 := hid (show Blk (w6.setCell ⟨rb, 4, none⟩ (.int .i64 (Ru.setN ahead 2 d.label))) rb (ruleArr ⟨d.kind, Ru.setN ahead 1 d.role, d.lo, d.hi, Ru.setN ahead 2 d.label, [], 0⟩ (.slice none 0 0)) 56 from R6.out.set 4 _)
              have I7 := hid (I6.out.set hc hrb 4 (.int .i64 (Ru.setN ahead 2 d.label)))
              clear r4 rf R6 I6
              go_wp2_with (first | (refine wpList_load_at rfl 81 (.tmp 61) rfl 62 rfl w.heap.size (16) (whoArr d.place) (range_place I7.out.dec) rfl Tryz.underlying81 rfl (by kernel_rfl) ?_))
              generalize hw7 : w6.setCell ⟨rb, 4, none⟩ (.int .i64 (Ru.setN ahead 2 d.label)) = w7 at *
              clear hw7
              refine (cwhere_any (I7.out.chk h) d.place hss.out.2.2.1).mono ?_
              rintro en w8 ⟨v, rfl, hv8, hvs8, hvo8, hk8, t8⟩
              have I8 := hid (show RuI w bo br c k (Ru.ckWhere ahead k d) (.slice rp k.rules.length rc) d x w8 from I7.out.step hne hk8 (wrongIf_rules _ _ _ _) t8)
              have R8 := hid (R7.out.touch t8 (by omega))
              have hrb7 := R7.out.lt
              have hvfar : Hid (∀ b, v.ownBlock = some b → rb < b) := hid (fun b hb => by have := hvo8 b hb; omega)
              have V8 := hid hv8
              have hvs := hid hvs8
              obtain ⟨vp, vc, rfl⟩ := row_shape hv8
              have r5 : w8.cell? ⟨rb, 5, none⟩ = some (.slice none 0 0) := R8.out.cell 5 rfl
              have rf := R8.out.free
              have hkb : Hid ((Ru.ckWhere ahead k d).boxes = k.boxes) := by
                refine hid ?_
                have e1 : (Ru.ckLong k d).boxes = k.boxes := by unfold Ru.ckLong; split; exact wrong_boxes _ _ _ _; rfl
                have e2 : (Ru.ckTier ahead k d).boxes = k.boxes := by
                  unfold Ru.ckTier; split
                  · rw [wrong_boxes]; exact (wrongIf_boxes _ _ _ _).trans e1
                  · exact (wrongIf_boxes _ _ _ _).trans e1
                exact (wrongIf_boxes _ _ _ _).trans ((wrongIf_boxes _ _ _ _).trans e2)
              clear hk8 t8 hv8 hvs8 hvo8 I7 R7 hrb7
              generalize hnl : (Ru.whereB ahead d.place).length = nl at *
              have hnl' := hid hnl
              clear hnl
              go_wp2_with fail
              have I9 := hid (I8.out.set hc hrb 5 (.slice vp nl vc))
              have R9 := hid (show Blk (w8.setCell ⟨rb, 5, none⟩ (.slice vp nl vc)) rb (ruleArr ⟨d.kind, Ru.setN ahead 1 d.role, d.lo, d.hi, Ru.setN ahead 2 d.label, Ru.whereB ahead d.place, 0⟩ (.slice vp nl vc)) 56 from R8.out.set 5 _)
              have V9 := hid (V8.out.touch ((Touch.refl rb w8).setCell 5 (.slice vp nl vc)) (fun e2 => by have := hvfar.out rb e2; omega))
              clear r5 rf I8 R8 V8
              generalize hw9 : w8.setCell ⟨rb, 5, none⟩ (.slice vp nl vc) = w9 at *
              clear hw9
              obtain ⟨w10, hw10⟩ : ∃ w10, w10 = w9.drew := ⟨_, rfl⟩
              have I10 := hid (show RuI w bo br c k (Ru.ckWhere ahead k d) (.slice rp k.rules.length rc) d x w10 from hw10 ▸ I9.out.ext (Below.refl _ _).drew)
              have R10 := hid (show Blk w10 rb (ruleArr ⟨d.kind, Ru.setN ahead 1 d.role, d.lo, d.hi, Ru.setN ahead 2 d.label, Ru.whereB ahead d.place, 0⟩ (.slice vp nl vc)) 56 from hw10 ▸ R9.out.drew)
              have V10 := hid (show Row w10 (.slice vp nl vc) nl 4 (boxesCells (Ru.whereB ahead d.place)) from hw10 ▸ V9.out.ext (Below.refl _ _).drew)
              clear I9 R9 V9
              have c3 : w10.cell? ⟨c, 3, none⟩ = some (.int .i64 (Ru.ckWhere ahead k d).boxes) := I10.out.blk.cell 3 rfl
              rw [hkb.out] at c3
              have cf := I10.out.blk.free
              have r5 : w10.cell? ⟨rb, 5, none⟩ = some (.slice vp nl vc) := R10.out.cell 5 rfl
              have hs1 : (0 : Int) ≤ k.boxes := hpre.out.2.1.1
              have hs2 : k.boxes ≤ 32 := hpre.out.2.1.2
              have hs3 : nl * 32 ≤ 140737488355328 := hvs.out
              have hw1 : IntKind.i64.wrap (k.boxes + (nl : Int)) = k.boxes + nl := by rw [IntKind.wrap_i64]; omega
              have hw2 : wrap64 (k.boxes + (nl : Int)) = k.boxes + nl := by unfold wrap64; omega
              refine still_tail_at 10 (by kernel_rfl) (by kernel_rfl) w10 hw10 ?_
              clear hw10
              simp only [List.take_succ_cons, List.take_zero, List.drop_succ_cons, List.drop_zero]
              repeat still_step
              try refine wpStill_nil ?_
              go_upto_region 12 with (fail)
              have hmb : Hid ((Ru.ckMore ahead k d).boxes = k.boxes + nl) := hid (by unfold Ru.ckMore; simp only; rw [hnl'.out])
              have hce : ckCells bo br (Ru.ckMore ahead k d) (.slice rp k.rules.length rc) = (ckCells bo br (Ru.ckWhere ahead k d) (.slice rp k.rules.length rc)).setIfInBounds 3 (.int .i64 (k.boxes + nl)) := by unfold ckCells; rw [hmb.out]; rfl
              have I11 := hid (show RuI w bo br c k (Ru.ckMore ahead k d) (.slice rp k.rules.length rc) d x (w10.setCell ⟨c, 3, none⟩ (.int .i64 (k.boxes + nl))) from ⟨by rw [hce]; exact I10.out.blk.set 3 _, I10.out.rul, I10.out.dec.setOther hne 3 _, I10.out.tch.setCell 3 _⟩)
              have R11 := hid (R10.out.setOther (k := c) (Ne.symm hcr) 3 (.int .i64 (k.boxes + nl)))
              have V11 := hid (V10.out.touch ((Touch.refl c w10).setCell 3 (.int .i64 (k.boxes + nl))) (fun e2 => by have := hvfar.out c e2; omega))
              clear hce c3 cf r5 I10 R10 V10 hw1 hw2 hkb
              generalize hw11 : w10.setCell ⟨c, 3, none⟩ (.int .i64 (k.boxes + nl)) = w11 at *
              clear hw11
              have c3 : w11.cell? ⟨c, 3, none⟩ = some (.int .i64 (Ru.ckMore ahead k d).boxes) := I11.out.blk.cell 3 rfl
              rw [hmb.out] at c3
              go_upto_if 79 with (fail)
              go_cut [] (fun wx => Blk wx rb (ruleArr ⟨d.kind, Ru.setN ahead 1 d.role, d.lo, d.hi, Ru.setN ahead 2 d.label, Ru.whereB ahead d.place, 0⟩ (.slice vp nl vc)) 56 ∧ RuI w bo br c k (Ru.ckBoxes ahead k d) (.slice rp k.rules.length rc) d x wx ∧ Row wx (.slice vp nl vc) nl 4 (boxesCells (Ru.whereB ahead d.place)))
              case first =>
                by_cases ht : 32 < k.boxes + (nl : Int)
                · have e := hid (show Ru.ckBoxes ahead k d = (Ru.ckMore ahead k d).wrong 2 d.line d.col by unfold Ru.ckBoxes; rw [if_pos (by rw [hmb.out]; exact ht)])
                  go_wp2_with (first | (refine wpList_load_at rfl 31 (.tmp 81) rfl 82 rfl w.heap.size (22) (#[.int .i64 d.line, .int .i64 d.col]) (range_pos I11.out.dec) rfl Tryz.underlying31 rfl (by kernel_rfl) ?_))
                  refine (cwrong_any (I11.out.chk h) _ _ _).mono ?_
                  rintro en wy ⟨rfl, hky, ty⟩
                  have Iy := hid (I11.out.step hne hky (wrong_rules _ _ _ _) ty)
                  have Ry := hid (R11.out.touch ty (by omega))
                  have Vy := hid (V11.out.touch ty (fun e2 => by have := hvfar.out c e2; omega))
                  clear hky ty
                  go_wp2_with fail
                  go_meet
                  case rel => rw [e.out]; exact ⟨Ry.out, Iy.out, Vy.out⟩
                · have e := hid (show Ru.ckBoxes ahead k d = Ru.ckMore ahead k d by unfold Ru.ckBoxes; rw [if_neg (by rw [hmb.out]; exact ht)])
                  go_wp2_with fail
                  go_meet
                  case rel => rw [e.out]; exact ⟨R11.out, I11.out, V11.out⟩
              case rest =>
                have R12 := hid hcut.1
                have I12 := hid hcut.2.1
                have V12 := hid hcut.2.2
                clear hcut R11 I11 V11 c3 hmb
                have q21 : wc.cell? ⟨w.heap.size, 21, none⟩ = some (.int .i64 d.zoom) := I12.out.dec.cell 21 rfl
                go_upto_if 86 with (fail)
                go_cut [] (fun wx => Blk wx rb (ruleArr ⟨d.kind, Ru.setN ahead 1 d.role, d.lo, d.hi, Ru.setN ahead 2 d.label, Ru.whereB ahead d.place, 0⟩ (.slice vp nl vc)) 56 ∧ RuI w bo br c k (Ru.ckZoom ahead k d) (.slice rp k.rules.length rc) d x wx ∧ Row wx (.slice vp nl vc) nl 4 (boxesCells (Ru.whereB ahead d.place)))
                case first =>
                  by_cases ht : 16 < d.zoom
                  · have e := hid (show Ru.ckZoom ahead k d = (Ru.ckBoxes ahead k d).wrong 33 d.line d.col by unfold Ru.ckZoom; rw [if_pos (ht)])
                    go_wp2_with (first | (refine wpList_load_at rfl 31 (.tmp 88) rfl 89 rfl w.heap.size (22) (#[.int .i64 d.line, .int .i64 d.col]) (range_pos I12.out.dec) rfl Tryz.underlying31 rfl (by kernel_rfl) ?_))
                    refine (cwrong_any (I12.out.chk h) _ _ _).mono ?_
                    rintro en wy ⟨rfl, hky, ty⟩
                    have Iy := hid (I12.out.step hne hky (wrong_rules _ _ _ _) ty)
                    have Ry := hid (R12.out.touch ty (by omega))
                    have Vy := hid (V12.out.touch ty (fun e2 => by have := hvfar.out c e2; omega))
                    clear hky ty
                    go_wp2_with fail
                    go_meet
                    case rel => rw [e.out]; exact ⟨Ry.out, Iy.out, Vy.out⟩
                  · have e := hid (show Ru.ckZoom ahead k d = Ru.ckBoxes ahead k d by unfold Ru.ckZoom; rw [if_neg (ht)])
                    go_wp2_with fail
                    go_meet
                    case rel => rw [e.out]; exact ⟨R12.out, I12.out, V12.out⟩
                case rest =>
                  have R13 := hid hcut.1
                  have I13 := hid hcut.2.1
                  have V13 := hid hcut.2.2
                  clear hcut R12 I12 V12 q21
                  have q21 : wc.cell? ⟨w.heap.size, 21, none⟩ = some (.int .i64 d.zoom) := I13.out.dec.cell 21 rfl
                  have r6 : wc.cell? ⟨rb, 6, none⟩ = some (.int .i64 0) := R13.out.cell 6 rfl
                  have rf := R13.out.free
                  go_upto_region 17 with (fail)
                  have R14 := hid (show Blk (wc.setCell ⟨rb, 6, none⟩ (.int .i64 d.zoom)) rb (ruleArr ⟨d.kind, Ru.setN ahead 1 d.role, d.lo, d.hi, Ru.setN ahead 2 d.label, Ru.whereB ahead d.place, d.zoom⟩ (.slice vp nl vc)) 56 from R13.out.set 6 _)
                  have I14 := hid (I13.out.set hc hrb 6 (.int .i64 d.zoom))
                  have V14 := hid (V13.out.touch ((Touch.refl rb wc).setCell 6 (.int .i64 d.zoom)) (fun e2 => by have := hvfar.out rb e2; omega))
                  clear q21 r6 rf R13 I13 V13
                  generalize hw14 : wc.setCell ⟨rb, 6, none⟩ (.int .i64 d.zoom) = w14 at *
                  clear hw14
                  have e := hid (show Ru.ckRule ahead k d = { Ru.ckZoom ahead k d with rules := k.rules ++ [Ru.ckRuleOf ahead d] } by unfold Ru.ckRule; rw [if_neg h6])
                  obtain ⟨vs, rg, hi0⟩ := h.inn
                  have hi := hid (hi0.touch I14.out.tch)
                  have hi0' := hid hi0
                  clear hi0
                  have C3 := hid I14.out.blk
                  have cc2 : w14.cell? ⟨c, 2, none⟩ = some (.slice rp k.rules.length rc) := I14.out.blk.cell 2 rfl
                  have hSr := rbS R14.out
                  have hSr' := rbS (Blk.drew R14.out)
                  have nlen : k.rules.length + 1 ≤ maxLen := by unfold maxLen; omega
                  have nby : (k.rules.length + 1) * 72 ≤ 140737488355328 := by omega
                  have hal := hid ((hi.out.ext (Below.refl _ _).drew).own.alloc (.cells (ruleArr ⟨d.kind, Ru.setN ahead 1 d.role, d.lo, d.hi, Ru.setN ahead 2 d.label, Ru.whereB ahead d.place, d.zoom⟩ (.slice vp nl vc)) 56))
                  have hc1 := hid (cells_new w14.drew (ruleArr ⟨d.kind, Ru.setN ahead 1 d.role, d.lo, d.hi, Ru.setN ahead 2 d.label, Ru.whereB ahead d.place, d.zoom⟩ (.slice vp nl vc)).toList 56 (k := w14.heap.size) rfl)
                  have hone : Hid (∀ u ∈ (ruleArr ⟨d.kind, Ru.setN ahead 1 d.role, d.lo, d.hi, Ru.setN ahead 2 d.label, Ru.whereB ahead d.place, d.zoom⟩ (.slice vp nl vc)).toList, u.oneCell' = true) := hid (fun u hu => (Array.all_eq_true_iff_forall_mem.1 (ruleArr_one _ rfl)) u (by simpa using hu))
                  have hwy := hid ((Below.refl w14.heap.size w14).drew.trans (balloc w14.drew (.cells (ruleArr ⟨d.kind, Ru.setN ahead 1 d.role, d.lo, d.hi, Ru.setN ahead 2 d.label, Ru.whereB ahead d.place, d.zoom⟩ (.slice vp nl vc)) 56)))
                  have hcl := C3.out.lt
                  have hba := hid (show c + 1 ≤ (w14.drew.alloc (.cells (ruleArr ⟨d.kind, Ru.setN ahead 1 d.role, d.lo, d.hi, Ru.setN ahead 2 d.label, Ru.whereB ahead d.place, d.zoom⟩ (.slice vp nl vc)) 56)).heap.size by rw [World.size_alloc]; exact Nat.le_succ_of_le hcl)
                  have C4 := hid (C3.out.ext hwy.out)
                  have R15 := hid (R14.out.ext hwy.out)
                  go_region_law (
                    (refine step_append_lies _ rfl _ _ 28 rfl (c + 1) 56 i0 _ 7 72 Tryz.underlying28 hinf hiz hisz hiby rfl (by decide) _ _ _ rfl hal.out ⟨w14.heap.size, 0, none⟩ 1 1 (ruleArr ⟨d.kind, Ru.setN ahead 1 d.role, d.lo, d.hi, Ru.setN ahead 2 d.label, Ru.whereB ahead d.place, d.zoom⟩ (.slice vp nl vc)).toList rfl rfl hc1.out hone.out (by decide) nlen nby hba.out _ rfl ?_
                     intro g5 cap5 w5 hown5 hgrow hat5 hlt5
                     have hfin := hid (rule_done h I14.out hwy.out hgrow (r := Ru.ckRuleOf ahead d) (by rw [show (Ru.ckRuleOf ahead d).boxes = Ru.whereB ahead d.place from rfl, hnl'.out]; exact V14.out) (by rw [show (Ru.ckRuleOf ahead d).boxes = Ru.whereB ahead d.place from rfl, hnl'.out]; exact hvs.out) (fun b hb => by have := hvfar.out b hb; omega) hi0'.out hown5 (by rcases hat5 with e2 | e2; exact .inl e2.symm; exact .inr (by rw [e2]; rfl)) hpre.out.2.2.2.1 hpre.out.2.2.2.2.1 hpre.out.2.2.2.2.2 e.out)
                     have C5 := C4.out.grown hgrow (own_ne hal.out (Nat.lt_succ_self _))
                     have R5 := R15.out.grown hgrow (fun e2 => by have := hrvlt.out _ e2; omega)
                     have S5 := rbS R5
                     have cc5 : w5.cell? ⟨c, 2, none⟩ = some (.slice rp k.rules.length rc) := C5.cell 2 rfl
                     have cf5 := C5.free
                     have S6 := rbS (R5.setOther (Ne.symm hcr) 2 (.slice (some ⟨g5, 0, none⟩) (k.rules.length + 1) cap5))
                     clear hown5 hgrow hat5 hlt5 C5 R5))
                  all_goals (go_wp2_with fail; go_end0; exact hfin.out)

end Go.Proofs.YteddkgpnklfppaaGreatDoor
