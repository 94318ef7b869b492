/-
  The walk of policy.Parse.
  The walks of policy: what a declaration may be.
-/
import Derived.Test.YteddkgpnklfppaaGreatDoorPk12
import Derived.Test.YteddkgpnklfppaaGreatDoorPk13
import Derived.Maps.AppendAt
import Derived.Test.YteddkgpnklfppaaGreatDoorPk06

namespace Go.Proofs.YteddkgpnklfppaaGreatDoor
open Go.RowKit Go.Sort

theorem Tryz.infoDecl : (Tryz.prog.info? 83).map (fun i => (i.zero, i.size, i.bytes)) = some (some (.agg (declCells Po.zeroDecl (.slice none 0 0))), 24, 240) := by kernel_rfl

/-- the cells of a row of declarations; vs: their boxes' slices -/
def declsCells (ds : List Po.Decl) (vs : List Value) : List Value := (ds.zip vs).flatMap fun p => (declCells p.1 p.2).toList
theorem declsCells_snoc {ds : List Po.Decl} {vs : List Value} (h : vs.length = ds.length) (d : Po.Decl) (v : Value) : declsCells (ds ++ [d]) (vs ++ [v]) = declsCells ds vs ++ (declCells d v).toList := by
  unfold declsCells
  rw [List.zip_append h.symm]
  simp
theorem Row.own_lt {w : World} {v : Value} {n size : Nat} {xs : List Value} (h : Row w v n size xs) {k : Nat} (hk : v.ownBlock = some k) : k < w.heap.size := by
  rcases h.2 with ⟨rfl, _⟩ | ⟨g, off, cap, rfl, _, hg, _⟩
  · simp [Value.ownBlock] at hk
  · simp only [Value.ownBlock, Option.some.injEq] at hk; omega
theorem Row.grown {w w' : World} {v : Value} {n size : Nat} {xs : List Value} {row : Option Nat} (h : Row w v n size xs) (hg : w.grownBy w' row) (hne : ∀ k, v.ownBlock = some k → row ≠ some k) : Row w' v n size xs := by
  cases row with
  | none => exact h.touch (b := w.heap.size) ⟨hg.os, hg.tape, hg.output, hg.size, fun i hi _ => hg.block i hi (by simp)⟩ (fun e => by have := h.own_lt e; omega)
  | some k => exact h.touch (b := k) ⟨hg.os, hg.tape, hg.output, hg.size, fun i hi hn => hg.block i hi (by simpa using hn)⟩ (fun e => hne k e rfl)

/-- each declaration's boxes lie in a row of their own, behind block b, none of them u's -/
structure OwnBoxes (w : World) (b : Nat) (u : Value) (ds : List Po.Decl) (vs : List Value) : Prop where
  len : vs.length = ds.length
  box : ∀ (i : Nat) (d : Po.Decl) (x : Value), ds[i]? = some d → vs[i]? = some x → Row w x d.boxes.length 4 (boxesCells d.boxes)
  far : ∀ x ∈ vs, ∀ k, x.ownBlock = some k → b < k ∧ k < w.heap.size ∧ u.ownBlock ≠ some k
theorem OwnBoxes.nil (w : World) (b : Nat) (u : Value) : OwnBoxes w b u [] [] := ⟨rfl, fun i d x h => by simp at h, fun x h => by simp at h⟩
theorem OwnBoxes.touch {w w' : World} {b : Nat} {u : Value} {ds : List Po.Decl} {vs : List Value} (h : OwnBoxes w b u ds vs) (ht : Touch b w w') : OwnBoxes w' b u ds vs :=
  ⟨h.len, fun i d x hd hx => (h.box i d x hd hx).touch ht (fun e => by have := (h.far x (List.mem_of_getElem? hx) b e).1; omega), fun x hx k hk => by
    have := h.far x hx k hk
    exact ⟨this.1, Nat.lt_of_lt_of_le this.2.1 ht.size, this.2.2⟩⟩
theorem OwnBoxes.snoc {w w' : World} {b : Nat} {u u' : Value} {ds : List Po.Decl} {vs : List Value} {d : Po.Decl} {x : Value} {n : Nat} (h : OwnBoxes w b u ds vs) (hx : Row w x d.boxes.length 4 (boxesCells d.boxes))
    (hfar : ∀ k, x.ownBlock = some k → b < k ∧ u.ownBlock ≠ some k) (hg : w.grownBy w' u.ownBlock) (hat : u'.ownBlock = u.ownBlock ∨ u'.ownBlock = some n) (hn : w.heap.size ≤ n) : OwnBoxes w' b u' (ds ++ [d]) (vs ++ [x]) := by
  have hsz := hg.size
  have key : ∀ y : Value, (∀ k, y.ownBlock = some k → b < k ∧ k < w.heap.size ∧ u.ownBlock ≠ some k) → ∀ k, y.ownBlock = some k → b < k ∧ k < w'.heap.size ∧ u'.ownBlock ≠ some k := by
    intro y hy k hk
    obtain ⟨h1, h2, h3⟩ := hy k hk
    refine ⟨h1, by omega, ?_⟩
    rcases hat with e | e
    · rw [e]; exact h3
    · rw [e]; intro e2; simp only [Option.some.injEq] at e2; omega
  refine ⟨by simp [h.len], ?_, ?_⟩
  · intro i d' y hd hy
    rcases Nat.lt_or_ge i ds.length with hi | hi
    · rw [List.getElem?_append_left hi] at hd
      rw [List.getElem?_append_left (by rw [h.len]; exact hi)] at hy
      exact (h.box i d' y hd hy).grown hg (fun k hk => (h.far y (List.mem_of_getElem? hy) k hk).2.2)
    · rw [List.getElem?_append_right hi] at hd
      rw [List.getElem?_append_right (by rw [h.len]; exact hi)] at hy
      have hi0 : i - ds.length = 0 := by
        rcases Nat.eq_zero_or_pos (i - ds.length) with h0 | h0
        · exact h0
        · rw [List.getElem?_eq_none (by simp; omega)] at hd; cases hd
      rw [h.len, hi0] at hy
      rw [hi0] at hd
      simp only [List.getElem?_cons_zero, Option.some.injEq] at hd hy
      subst hd hy
      exact hx.grown hg (fun k hk => (hfar k hk).2)
  · intro y hy
    rw [List.mem_append, List.mem_singleton] at hy
    rcases hy with hy | rfl
    · exact key y (h.far y hy)
    · exact key y (fun k hk => ⟨(hfar k hk).1, hx.own_lt hk, (hfar k hk).2⟩)

/-- a row of declarations in memory -/
structure Decls (w : World) (v : Value) (ds : List Po.Decl) (vs : List Value) : Prop where
  len : vs.length = ds.length
  row : Row w v ds.length 24 (declsCells ds vs)
  box : ∀ (i : Nat) (d : Po.Decl) (x : Value), ds[i]? = some d → vs[i]? = some x → Row w x d.boxes.length 4 (boxesCells d.boxes)
theorem Decls.ext {w w' : World} {v : Value} {ds : List Po.Decl} {vs : List Value} (h : Decls w v ds vs) (hb : Below w.heap.size w w') : Decls w' v ds vs :=
  ⟨h.len, h.row.ext hb, fun i d x hd hx => (h.box i d x hd hx).ext hb⟩

def ParsePost (L : Lx.Bytes) (e : Ending) (w' : World) : Prop :=
  match Po.parse L with
  | .ok ds => ∃ v vs, e = .returned (.tuple #[v, .agg #[.int .i64 0, .int .i64 0, .int .i64 0]]) ∧ Decls w' v ds vs
  | .error (er, l, c) => e = .returned (.tuple #[.slice none 0 0, .agg #[.int .i64 er, .int .i64 l, .int .i64 c]]) ∧ er ≠ 0

theorem parse_bad {L : Lx.Bytes} {f : Lx.Fault} (h : Lx.tokens L = .error f) : Po.parse L = .error f := by unfold Po.parse; rw [h]
theorem parse_ok {L : Lx.Bytes} {T : List Lx.Tok} (h : Lx.tokens L = .ok T) : Po.parse L = if (Po.parseS T (Lx.posOf L) (T.length + 1) Po.st0).f.1 = 0 then .ok (Po.parseV T (Lx.posOf L) (T.length + 1) Po.st0) else .error (Po.parseS T (Lx.posOf L) (T.length + 1) Po.st0).f := by
  unfold Po.parse; rw [h]

set_option maxRecDepth 100000 in
set_option maxHeartbeats 4000000 in
theorem parse_err {s : ByteArray} {w : World} (hs : s.size ≤ 140737488355328) {er l c : Nat} (hk : Lx.tokens s.data.toList = .error (er, l, c)) :
    Calls Tryz.prog 11 #[.string s] w fun e w' => ParsePost s.data.toList e w' ∧ Below w.heap.size w w' := by
  have hp := hid (parse_bad hk)
  have hn1 := Nat.le_refl w.heap.size
  have htk := tokens_any s (w.alloc (.cells #[.int .i64 0, .int .i64 0, .int .i64 0] 33)) hs
  unfold TokensPost at htk
  rw [hk] at htk
  have htk' := hid htk
  clear htk hk
  have hz1 := balloc w (.cells #[.int .i64 0, .int .i64 0, .int .i64 0] 33)
  have Q0 := hid hz1
  have B0 := hid (Blk.new w #[.int .i64 0, .int .i64 0, .int .i64 0] 33)
  clear hz1
  go_enter Tryz.func11, Tryz.ntmps11
  go_wp2_with fail
  refine htk'.out.mono ?_
  rintro e w1 ⟨⟨v, rfl, hr, her⟩, hb1⟩
  have hsz := hb1.size
  simp only [World.size_alloc] at hsz
  have Q1 := hid (bthen Q0.out hb1)
  have B1 := hid (B0.out.ext hb1)
  have hne : w.heap.size ≠ w1.heap.size := by omega
  have hne' : w1.heap.size ≠ w.heap.size := by omega
  have hn2 : w.heap.size ≤ w1.heap.size := by omega
  have C1 := hid (Blk.new w1 #[.int .i64 er, .int .i64 l, .int .i64 c] 33)
  have B2 := hid (B1.out.ext (balloc w1 (.cells #[.int .i64 er, .int .i64 l, .int .i64 c] 33)))
  have Q2 := hid (bthen Q1.out (balloc w1 (.cells #[.int .i64 er, .int .i64 l, .int .i64 c] 33)))
  obtain ⟨d0, d1, d2, df, dz⟩ := B2.out.three
  have h0 : ((er : Int) != 0) = true := by rw [bne_iff_ne]; omega
  clear hr
  go_wp2_with fail
  go_region_held3 (fun w' => w'.cell? ⟨w1.heap.size, 0, none⟩ = some (.int .i64 er) ∧ w'.cell? ⟨w1.heap.size, 1, none⟩ = some (.int .i64 l) ∧ w'.cell? ⟨w1.heap.size, 1 + 1, none⟩ = some (.int .i64 c)) (go_keep) (first | fail)
  go_wp2_with fail
  refine bodyPost_ret (v := .tuple #[.slice none 0 0, .agg #[.int .i64 er, .int .i64 l, .int .i64 c]]) (by simp [results, Tryz.results11, go_sem, d0, d1, d2]) rfl ⟨?_, (by simp only [below_setNew_iff hn1, below_drew_iff]; exact Q2.out)⟩
  unfold ParsePost
  rw [hp.out]
  exact ⟨rfl, her⟩

set_option maxRecDepth 100000 in
set_option maxHeartbeats 8000000 in
theorem parse_ok_any {s : ByteArray} {w : World} (hs : s.size ≤ 140737488355328) {T : List Lx.Tok} (hk : Lx.tokens s.data.toList = .ok T) :
    Calls Tryz.prog 11 #[.string s] w fun e w' => ParsePost s.data.toList e w' ∧ Below w.heap.size w w' := by
  obtain ⟨i0, hinf, hiz, hisz, hiby⟩ := info_parts Tryz.infoDecl
  have hTl := (Lx.tokens_bound hk).1
  have hp := hid (parse_ok hk)
  have hn1 := Nat.le_refl w.heap.size
  have htk := tokens_any s (w.alloc (.cells #[.int .i64 0, .int .i64 0, .int .i64 0] 33)) hs
  unfold TokensPost at htk
  rw [hk] at htk
  have htk' := hid htk
  clear htk hk
  have hz1 := balloc w (.cells #[.int .i64 0, .int .i64 0, .int .i64 0] 33)
  have Q0 := hid hz1
  have B0 := hid (Blk.new w #[.int .i64 0, .int .i64 0, .int .i64 0] 33)
  clear hz1
  have hps := Lx.posOf_le s.data.toList
  have hpe : ∃ e : Nat × Nat, Lx.posOf s.data.toList = e := ⟨_, rfl⟩
  obtain ⟨e, hpe⟩ := hpe
  rw [hpe] at hp
  have hpe' := hid hpe
  clear hpe hps
  go_enter Tryz.func11, Tryz.ntmps11
  go_wp2_with fail
  refine htk'.out.mono ?_
  rintro en w1 ⟨⟨v, rfl, hr⟩, hb1⟩
  have hsz := hb1.size
  simp only [World.size_alloc] at hsz
  have Q1 := hid (bthen Q0.out hb1)
  have B1 := hid (B0.out.ext hb1)
  have hz := balloc w1 (.cells #[.int .i64 0, .int .i64 0, .int .i64 0] 33)
  have B2 := hid (B1.out.ext hz)
  have Q2 := hid (bthen Q1.out hz)
  have hr2 := hid (hr.ext hz)
  have hvs : ∃ pa cp, v = .slice pa T.length cp := by
    rcases tokRow_of hr with ⟨rfl, rfl⟩ | ⟨g, off, cap, rfl, _⟩
    · exact ⟨_, _, rfl⟩
    · exact ⟨_, _, rfl⟩
  obtain ⟨pa, cp, rfl⟩ := hvs
  clear hr hz
  go_wp2_with fail
  refine (end_any s _ hs).mono ?_
  rintro en w3 ⟨rfl, hb3⟩
  rw [hpe'.out]
  have hsz3 := hb3.size
  simp only [World.size_alloc] at hsz3
  have B3 := hid (B2.out.ext hb3)
  have Q3 := hid (bthen Q2.out hb3)
  have hr3 := hid (hr2.out.ext hb3)
  have hz := balloc w3 (.cells #[.slice pa T.length cp, .int .i64 0, .int .i64 e.1, .int .i64 e.2, .int .i64 0, .int .i64 0, .int .i64 0] 79)
  have B4 := hid (B3.out.ext hz)
  have Q4 := hid (bthen Q3.out hz)
  have hr4 := hid (hr3.out.ext hz)
  have hP4 : Hid (PRd (w3.alloc (.cells #[.slice pa T.length cp, .int .i64 0, .int .i64 e.1, .int .i64 e.2, .int .i64 0, .int .i64 0, .int .i64 0] 79)) w3.heap.size pa cp T e Po.st0) := by
    refine hid ⟨Blk.new w3 _ _, ?_, Nat.zero_le _, by omega⟩
    rcases tokRow_of hr4.out with ⟨_, h⟩ | ⟨g, off, cap, hv, hg⟩
    · exact .inl h
    · cases hv
      refine .inr ⟨g, off, rfl, hg, ?_⟩
      rcases tokRow_of hr3.out with ⟨h, _⟩ | ⟨g', off', cap', hv', hg'⟩
      · cases h
      · cases hv'
        have := hg'.lt
        omega
  have hbb : w.heap.size < w3.heap.size := by omega
  have hbw : w.heap.size ≤ w3.heap.size := by omega
  have hsz4 : w3.heap.size < (w3.alloc (.cells #[.slice pa T.length cp, .int .i64 0, .int .i64 e.1, .int .i64 e.2, .int .i64 0, .int .i64 0, .int .i64 0] 79)).heap.size := by rw [World.size_alloc]; omega
  have hsz4w : (w3.alloc (.cells #[.slice pa T.length cp, .int .i64 0, .int .i64 e.1, .int .i64 e.2, .int .i64 0, .int .i64 0, .int .i64 0] 79)).heap.size ≤ w3.heap.size + 1 := by rw [World.size_alloc]; omega
  clear hz
  go_wp2_with fail
  generalize hbe : w3.heap.size = b at *
  have hbe' := hid hbe
  clear hbe
  go_loopg [7] (T.length + 1) (fun g u wr => ∃ (n : Nat) (ds : List Po.Decl) (vs : List Value) (st : Po.St), n = ds.length ∧ Po.Parsing T e Po.st0 g ds st ∧ PRd wr b pa cp T e st ∧ wr.ownsRow (b + 1) 83 24 u n (declsCells ds vs) ∧ OwnBoxes wr b u ds vs ∧
    Blk wr w.heap.size #[.int .i64 0, .int .i64 0, .int .i64 0] 33 ∧ Below w.heap.size w wr)
  case atStart => exact ⟨0, [], [], Po.st0, rfl, Po.Parsing.begin _ _ _, hP4.out, World.ownsRow_nil _ _ _ _, OwnBoxes.nil _ _ _, B4.out, Q4.out⟩
  case round =>
    obtain ⟨n, ds, vs, st, hn, hB, hP, hO, hX, hF, hQ⟩ := hrel
    have hn' := hid hn
    have hB' := hid hB
    have hP' := hid hP
    have hO' := hid hO
    have hX' := hid hX
    have hF' := hid hF
    have hQ' := hid hQ
    have hnT : n + gk ≤ T.length + 1 := by rw [hn]; exact hB.len
    clear hn hB hP hO hX hF hQ
    by_cases hl : st.at_ < T.length
    · by_cases h0 : st.f.1 = 0
      · have hg := hB'.out.pos hl h0
        obtain ⟨gk', rfl⟩ : ∃ g', gk = g' + 1 := ⟨gk - 1, by omega⟩
        have hB2 := hid (hB'.out.step hl h0)
        obtain ⟨hzz, c0, c1, c2, c3, c4, c5, c6, hf⟩ := hP'.out.f
        have hz0 : ((st.f.1 : Nat) : Int) = 0 := by omega
        rw [hz0] at c4
        clear hz0 h0
        go_wp2_with fail
        clear c0 c1 c2 c3 c4 c5 c6 hf hzz
        refine (pdecl_any hP'.out).mono ?_
        rintro en w5 ⟨v5, rfl, hrow, hown, h5, t5⟩
        have h5' := hid h5
        have o5 := hid (owns_touch hO'.out t5 (by omega))
        have x5 := hid (hX'.out.touch t5)
        have f5 := hid (Blk.touch hF'.out t5 (by omega))
        have q5 := hid (hQ'.out.trans (t5.to_below hQ'.out.size hbw))
        have hrow' := hid hrow
        have hlt5 := h5.blk.lt
        have hfar : Hid (∀ k, v5.ownBlock = some k → b < k ∧ u7.ownBlock ≠ some k) := hid (fun k hk => ⟨by have := hown k hk; have := hP'.out.blk.lt; omega, fun e2 => by
          have h1 := hown k hk
          have h2 := (Row.of_owns hO'.out).own_lt e2
          omega⟩)
        clear h5 t5 hrow hown
        generalize Po.declV T e st = D at *
        have hcap : n + 1 ≤ maxLen := by unfold maxLen; omega
        have hc1 := hid (cells_new w5 (declCells D v5).toList 83 (k := w5.heap.size) rfl)
        rw [Array.toArray_toList] at hc1
        have hal := hid (o5.out.alloc (.cells (declCells D v5) 83))
        have hone : Hid (∀ u ∈ (declCells D v5).toList, u.oneCell' = true) := by
          have h1 : v5.oneCell' = true := by obtain ⟨p, l, c, rfl⟩ := Row.shape hrow'.out; rfl
          exact hid (fun u hu => (Array.all_eq_true_iff_forall_mem.1 (declCells_one D h1)) u (by simpa using hu))
        have hz5 := q5.out.size
        have hlen24 : (declCells D v5).toList.length = 24 := rfl
        go_wp2_with (first | (refine wpList_buildOne rfl 44 83 (.tmp 39) rfl 40 rfl Tryz.underlying44 i0 _ hinf hiz 24 hisz (by decide) (by decide) (declCells D v5) rfl rfl ?_) | (at_builtin; refine Go.wpList_append_own_at _ rfl _ _ 44 rfl (b + 1) 83 i0 _ 24 240 Tryz.underlying44 hinf hiz hisz hiby rfl (by decide) _ _ _ rfl hal.out ⟨w5.heap.size, 0, none⟩ 1 1 (declCells D v5).toList rfl hlen24 hc1.out hone.out hcap (by omega) (by simp; omega) ?_; intro v6 w6 hown6 hgrow _ hat6))
        go_roundg gk'
        case measure => omega
        case rel =>
          have ha5 := balloc w5 (.cells (declCells D v5) 83)
          refine ⟨n + 1, ds ++ [D], vs ++ [v5], _, by rw [List.length_append, ← hn'.out]; rfl, hB2.out, ?_, ?_, ?_, ?_, ?_⟩
          · exact PRd.grown hP4.out (h5'.out.ext ha5) hgrow (fun k hk => Nat.le_trans hsz4w (hal.out.lt k hk).1)
          · rw [declsCells_snoc x5.out.len]; exact hown6
          · exact OwnBoxes.snoc (x5.out.touch (Touch.of_below ha5)) (hrow'.out.ext ha5) hfar.out hgrow hat6 (Nat.le_refl _)
          · exact Blk.grown (f5.out.alloc _) hgrow (own_ne hal.out (by omega))
          · exact (q5.out.alloc q5.out.size _).grown hgrow (by rw [World.size_alloc]; omega) (fun k hk => by have := (hal.out.lt k hk).1; omega)
      · have hst := hid (hB'.out.stop (fun x => h0 x.2))
        obtain ⟨i, fe, fl, fc⟩ := st
        simp only at hl h0
        obtain ⟨hzz, c0, c1, c2, c3, c4, c5, c6, hf⟩ := hP'.out.f
        simp only at c0 c1 c2 c3 c4 c5 c6
        obtain ⟨d0, d1, d2, df, dz⟩ := hF'.out.three
        have e1 : ((fe : Int) == 0) = false := by rw [beq_eq_false_iff_ne]; omega
        have e2 : ((fe : Int) != 0) = true := by rw [bne_iff_ne]; omega
        have h0' := hid h0
        have nbw : w.heap.size ≠ b := by omega
        have nwb : b ≠ w.heap.size := by omega
        clear h0
        go_wp2_with fail
        go_region_held3 (fun w' => w'.cell? ⟨b, 4, none⟩ = some (.int .i64 fe) ∧ w'.cell? ⟨b, 4 + 1, none⟩ = some (.int .i64 fl) ∧ w'.cell? ⟨b, 4 + 1 + 1, none⟩ = some (.int .i64 fc)) (go_keep) (first | fail)
        go_wp2_with fail
        refine bodyPost_ret (v := .tuple #[.slice none 0 0, .agg #[.int .i64 fe, .int .i64 fl, .int .i64 fc]]) (by simp [results, Tryz.results11, go_sem, d0, d1, d2]) rfl ⟨?_, (by simp only [below_setNew_iff hn1, below_drew_iff]; exact hQ'.out)⟩
        unfold ParsePost
        rw [hp.out, hst.out.2, if_neg (by exact h0'.out)]
        exact ⟨rfl, h0'.out⟩
    · have hst := hid (hB'.out.stop (fun x => hl x.1))
      obtain ⟨i, fe, fl, fc⟩ := st
      simp only at hl
      have hl' : decide ((i : Int) < T.length) = false := decide_eq_false (by omega)
      obtain ⟨hzz, c0, c1, c2, c3, c4, c5, c6, hf⟩ := hP'.out.f
      simp only at c0 c1 c2 c3 c4 c5 c6
      obtain ⟨d0, d1, d2, df, dz⟩ := hF'.out.three
      have nbw : w.heap.size ≠ b := by omega
      have nwb : b ≠ w.heap.size := by omega
      by_cases h0 : fe = 0
      · subst h0
        go_wp2_with fail
        refine bodyPost_ret (v := .tuple #[u7, .agg #[.int .i64 0, .int .i64 0, .int .i64 0]]) (by simp [results, Tryz.results11, go_sem, d0, d1, d2]) rfl ⟨?_, (by simp only [below_setNew_iff hn1]; exact hQ'.out)⟩
        unfold ParsePost
        rw [hp.out, hst.out.2, hst.out.1, if_pos rfl]
        have ht := hid (((((Touch.refl w.heap.size wr).setCell 0 (.int .i64 0)).setCell 1 (.int .i64 0)).setCell (1 + 1) (.int .i64 0)))
        refine ⟨u7, vs, rfl, hX'.out.len, ?_, ?_⟩
        · rw [← hn'.out]
          exact Row.of_owns (owns_touch hO'.out ht.out (by omega))
        · intro i d x hd hx
          exact (hX'.out.box i d x hd hx).touch ht.out (fun e2 => by have := (hX'.out.far x (List.mem_of_getElem? hx) _ e2).1; omega)
      · have e2 : ((fe : Int) != 0) = true := by rw [bne_iff_ne]; omega
        have h0' := hid h0
        clear h0
        go_wp2_with fail
        go_region_held3 (fun w' => w'.cell? ⟨b, 4, none⟩ = some (.int .i64 fe) ∧ w'.cell? ⟨b, 4 + 1, none⟩ = some (.int .i64 fl) ∧ w'.cell? ⟨b, 4 + 1 + 1, none⟩ = some (.int .i64 fc)) (go_keep) (first | fail)
        go_wp2_with fail
        refine bodyPost_ret (v := .tuple #[.slice none 0 0, .agg #[.int .i64 fe, .int .i64 fl, .int .i64 fc]]) (by simp [results, Tryz.results11, go_sem, d0, d1, d2]) rfl ⟨?_, (by simp only [below_setNew_iff hn1, below_drew_iff]; exact hQ'.out)⟩
        unfold ParsePost
        rw [hp.out, hst.out.2, if_neg (by exact h0'.out)]
        exact ⟨rfl, h0'.out⟩

theorem parse_any (s : ByteArray) (w : World) (hs : s.size ≤ 140737488355328) :
    Calls Tryz.prog 11 #[.string s] w fun e w' => ParsePost s.data.toList e w' ∧ Below w.heap.size w w' := by
  cases hk : Lx.tokens s.data.toList with
  | error x => obtain ⟨er, l, c⟩ := x; exact parse_err hs hk
  | ok T => exact parse_ok_any hs hk

end Go.Proofs.YteddkgpnklfppaaGreatDoor

namespace Go.Proofs.YteddkgpnklfppaaGreatDoor
open Go.RowKit Go.Sort

theorem numbers_row {g : Nat} {ns : List Int} {w : World} (h : ∀ (j : Nat) (hj : j < ns.length), w.cell? ⟨g, 0 + j, none⟩ = some (.int .i64 ns[j])) (hl : ns.length ≤ 4) (cp : Nat) (_hcp : ns.length ≤ cp) :
    Calls Tryz.prog 96 #[.slice (some ⟨g, 0, none⟩) ns.length cp] w fun e w' => e = .returned (.bool (ns.all Ru.num)) ∧ w = w' := by
  have h' := hid h
  clear h
  go_enter Tryz.func96, Tryz.ntmps96
  go_wp2_with fail
  go_loop [7] (fun u => ∃ i : Nat, u = .int .i64 i ∧ i ≤ ns.length ∧ (ns.take i).all Ru.num = true) (fun u => ns.length - (intOf u).toNat)
  case atStart => exact ⟨0, rfl, Nat.zero_le _, rfl⟩
  case round =>
    obtain ⟨i, rfl, hle, hall⟩ := hrel
    have hall' := hid hall
    clear hall
    by_cases hlt : i < ns.length
    · have hc := h'.out i hlt
      rw [Nat.zero_add] at hc
      have hyes := hid (fun h => all_take hlt hall'.out h)
      have hno := hid (fun h => all_no (p := Ru.num) hlt h)
      generalize ns[i] = n at *
      by_cases h0 : n < 0
      · have hy := hid (hno.out (by unfold Ru.num; simp; omega))
        go_wp2_with fail
        go_ret
        exact ⟨ret_bool hy.out.symm, rfl⟩
      · by_cases h1 : 65535 < n
        · have hy := hid (hno.out (by unfold Ru.num; simp; omega))
          go_wp2_with fail
          go_ret
          exact ⟨ret_bool hy.out.symm, rfl⟩
        · have hy := hid (hyes.out (by unfold Ru.num; simp; omega))
          go_wp2_with fail
          go_round
          case rel => exact ⟨i + 1, by go_num, by omega, hy.out⟩
          case measure => simp [intOf]; omega
    · obtain rfl : i = ns.length := by omega
      have hf := hid (show ns.all Ru.num = true by have h := hall'.out; rwa [List.take_of_length_le (Nat.le_refl _)] at h)
      go_wp2_with fail
      go_ret
      exact ⟨ret_bool hf.out.symm, rfl⟩

theorem numbers1_any (a : Int) (w : World) {k : Nat} (hk : k = w.heap.size) : Calls Tryz.prog 96 #[.slice (some ⟨k, 0, none⟩) 1 1] (w.alloc (.cells #[.int .i64 a] 3)) fun e w' => e = .returned (.bool (Ru.num a)) ∧ Below w.heap.size w w' := by
  subst hk
  have hb := Blk.new w #[.int .i64 a] 3
  refine (numbers_row (g := w.heap.size) (ns := [a]) (fun j hj => ?_) (by simp) 1 (by simp)).mono fun e w' h => ⟨by rw [h.1]; simp, h.2 ▸ balloc w _⟩
  obtain rfl : j = 0 := by simpa using hj
  exact hb.cell 0 rfl
theorem numbers3v_any (a b c : Int) (w : World) {k : Nat} (hk : k = w.heap.size) : Calls Tryz.prog 96 #[.slice (some ⟨k, 0, none⟩) 3 3] (w.alloc (.cells #[.int .i64 a, .int .i64 b, .int .i64 c] 3)) fun e w' => e = .returned (.bool (Ru.num a && Ru.num b && Ru.num c)) ∧ Below w.heap.size w w' := by
  subst hk
  have hb := Blk.new w #[.int .i64 a, .int .i64 b, .int .i64 c] 3
  refine (numbers_row (g := w.heap.size) (ns := [a, b, c]) (fun j hj => ?_) (by simp) 3 (by simp)).mono fun e w' h => ⟨by rw [h.1]; simp [Bool.and_assoc], h.2 ▸ balloc w _⟩
  have : j = 0 ∨ j = 1 ∨ j = 2 := by simp only [List.length_cons, List.length_nil] at hj; omega
  rcases this with rfl | rfl | rfl
  · exact hb.cell 0 rfl
  · exact hb.cell 1 rfl
  · exact hb.cell 2 rfl
theorem numbers4v_any (x : Po.Box) (w : World) {k : Nat} (hk : k = w.heap.size) : Calls Tryz.prog 96 #[.slice (some ⟨k, 0, none⟩) 4 4] (w.alloc (.cells #[.int .i64 x.x0, .int .i64 x.y0, .int .i64 x.x1, .int .i64 x.y1] 3)) fun e w' => e = .returned (.bool (Ru.boxN x)) ∧ Below w.heap.size w w' := by
  subst hk
  have hb := Blk.new w #[.int .i64 x.x0, .int .i64 x.y0, .int .i64 x.x1, .int .i64 x.y1] 3
  refine (numbers_row (g := w.heap.size) (ns := [x.x0, x.y0, x.x1, x.y1]) (fun j hj => ?_) (by simp) 4 (by simp)).mono fun e w' h => ⟨by rw [h.1]; unfold Ru.boxN; simp [Bool.and_assoc], h.2 ▸ balloc w _⟩
  have : j = 0 ∨ j = 1 ∨ j = 2 ∨ j = 3 := by simp only [List.length_cons, List.length_nil] at hj; omega
  rcases this with rfl | rfl | rfl | rfl
  · exact hb.cell 0 rfl
  · exact hb.cell 1 rfl
  · exact hb.cell 2 rfl
  · exact hb.cell 3 rfl

def whoArr (x : Po.Who) : Array Value := #[.bool x.any, .string x.name, .int .i64 x.n, .int .i64 x.line, .int .i64 x.col]
theorem empty_eq (s : ByteArray) : (s.toList.isEmpty) = (s.data.toList == []) := by
  rw [ByteArray.toList_eq]; cases s.data.toList <;> rfl

theorem zero_any (x : Po.Who) (w : World) : Calls Tryz.prog 97 #[.agg (whoArr x)] w fun e w' => e = .returned (.bool (Ru.zeroW x)) ∧ Below w.heap.size w w' := by
  have e := hid (show Ru.zeroW x = _ from by unfold Ru.zeroW; rw [← empty_eq])
  obtain ⟨any, name, n, line, col⟩ := x
  simp only at e
  unfold whoArr
  simp only
  go_enter Tryz.func97, Tryz.ntmps97
  go_wp2
  all_goals
    go_ret
    rw [e.out]
    refine ⟨ret_bool ?_, balloc w _⟩
    clear e
    simp_all

theorem wright_any (x : Po.Who) (w : World) (hs : x.name.size ≤ 140737488355328) : Calls Tryz.prog 102 #[.agg (whoArr x)] w fun e w' => e = .returned (.bool (Ru.rightW x)) ∧ Below w.heap.size w w' := by
  have e := hid (show Ru.rightW x = _ from by unfold Ru.rightW; rw [← empty_eq])
  have hnm := hid (name_any x.name)
  have Q0 := hid (balloc w (.cells (whoArr x) 81))
  obtain ⟨any, name, n, line, col⟩ := x
  simp only at e hs hnm Q0
  unfold whoArr at *
  simp only at Q0 ⊢
  cases any with
  | true =>
    go_enter Tryz.func102, Tryz.ntmps102
    go_wp2_with fail
    all_goals
      go_ret
      rw [e.out]
      refine ⟨ret_bool ?_, balloc w _⟩
      clear e hnm Q0
      simp_all
  | false =>
    cases hem : name.toList.isEmpty with
    | true =>
      have e2 := hid (show Ru.rightW ⟨false, name, n, line, col⟩ = Ru.num n by rw [e.out, hem]; rfl)
      have hem' : name.toList = [] := by simpa using hem
      clear e hem
      go_enter Tryz.func102, Tryz.ntmps102
      go_wp2_with fail
      refine (numbers1_any n _ (by simp)).mono ?_
      rintro en w1 ⟨rfl, hb1⟩
      go_wp2_with fail
      go_ret
      exact ⟨ret_bool e2.out.symm, bthen Q0.out hb1⟩
    | false =>
      have e2 := hid (show Ru.rightW ⟨false, name, n, line, col⟩ = (n == 0 && Lx.isName name.data.toList) by rw [e.out, hem]; rfl)
      have hem' : ¬ name.toList = [] := by simpa using hem
      have hem2 : (name.toList == []) = false := beq_eq_false_iff_ne.2 hem'
      clear e
      by_cases hn : n = 0
      · have kn : (n == 0) = true := beq_iff_eq.2 hn
        rw [kn] at e2
        clear hn
        go_enter Tryz.func102, Tryz.ntmps102
        go_wp2_with fail
        refine (hnm.out _ hs).mono ?_
        rintro en w1 ⟨rfl, hb1⟩
        go_wp2_with fail
        go_ret
        exact ⟨ret_bool e2.out.symm, bthen Q0.out hb1⟩
      · have kn : (n == 0) = false := beq_eq_false_iff_ne.2 hn
        rw [kn] at e2
        clear hn
        go_enter Tryz.func102, Tryz.ntmps102
        go_wp2_with fail
        go_ret
        exact ⟨ret_bool e2.out.symm, Q0.out⟩
theorem wplace_any (x : Po.Who) (w : World) (hs : x.name.size ≤ 140737488355328) : Calls Tryz.prog 117 #[.agg (whoArr x)] w fun e w' => e = .returned (.bool (Ru.placeW x)) ∧ Below w.heap.size w w' := by
  have e := hid (show Ru.placeW x = _ from by unfold Ru.placeW; rw [bne, ← empty_eq])
  have hr := hid (wright_any x)
  have B0 := hid (Blk.new w (whoArr x) 81)
  have Q0 := hid (balloc w (.cells (whoArr x) 81))
  cases hrr : Ru.rightW x with
  | false =>
    rw [hrr] at hr e
    obtain ⟨any, name, n, line, col⟩ := x
    simp only at e hs hr Q0 B0 hrr
    have hrr' := hid hrr
    clear hrr
    unfold whoArr at *
    simp only at Q0 hr B0 ⊢
    go_enter Tryz.func117, Tryz.ntmps117
    go_wp2_with fail
    refine (hr.out _ hs).mono ?_
    rintro en w1 ⟨rfl, hb1⟩
    go_wp2_with fail
    go_ret
    exact ⟨ret_bool e.out.symm, bthen Q0.out hb1⟩
  | true =>
    rw [hrr] at hr e
    obtain ⟨any, name, n, line, col⟩ := x
    simp only at e hs hr Q0 B0 hrr
    have hrr' := hid hrr
    clear hrr
    unfold whoArr at *
    simp only at Q0 hr B0 ⊢
    go_enter Tryz.func117, Tryz.ntmps117
    go_wp2_with fail
    refine (hr.out _ hs).mono ?_
    rintro en w1 ⟨rfl, hb1⟩
    have Q1 := hid (bthen Q0.out hb1)
    obtain ⟨x0, x1, x2, x3, x4, xf, xz⟩ := (B0.out.ext hb1).five
    clear hb1
    go_wp2_with fail
    all_goals
      go_ret
      rw [e.out]
      refine ⟨ret_bool ?_, Q1.out⟩
      clear e hr Q0 B0 Q1 hrr' x0 x1 x2 x3 x4 xf xz hs
      simp_all

end Go.Proofs.YteddkgpnklfppaaGreatDoor
