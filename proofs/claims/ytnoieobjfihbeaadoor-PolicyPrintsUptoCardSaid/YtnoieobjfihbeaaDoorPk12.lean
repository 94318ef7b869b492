/-
  The walk of policy.Parse.
  The walks of policy: what a declaration may be.
  Plain laws of the rules: a policy's rules by the program and by the reference. No program.
  The document's own printer of policies: a number's text, a who's.
-/
import Derived.Test.YtnoieobjfihbeaaDoorPk11
import Derived.Test.YtnoieobjfihbeaaDoorPk02
import Derived.Test.YtnoieobjfihbeaaDoorPk01
import Derived.Maps.AppendAt
import Derived.Test.YtnoieobjfihbeaaDoorPk10
import Derived.Test.YtnoieobjfihbeaaDoorPk05

namespace Go.Proofs.YtnoieobjfihbeaaDoor
open Go.RowKit Go.Sort

theorem Tryd.infoDecl : (Tryd.prog.info? 44).map (fun i => (i.zero, i.size, i.bytes)) = some (some (.agg (declCells Po.zeroDecl (.slice none 0 0))), 24, 240) := by kernel_rfl

/-- the cells of a row of declarations; vs: their boxes' slices -/
def declsCells (ds : List Po.Decl) (vs : List Value) : List Value := (ds.zip vs).flatMap fun p => (declCells p.1 p.2).toList
theorem declsCells_snoc {ds : List Po.Decl} {vs : List Value} (h : vs.length = ds.length) (d : Po.Decl) (v : Value) : declsCells (ds ++ [d]) (vs ++ [v]) = declsCells ds vs ++ (declCells d v).toList := by
  unfold declsCells
  rw [List.zip_append h.symm]
  simp
theorem Row.own_lt {w : World} {v : Value} {n size : Nat} {xs : List Value} (h : Row w v n size xs) {k : Nat} (hk : v.ownBlock = some k) : k < w.heap.size := by
  rcases h.2 with ⟨rfl, _⟩ | ⟨g, off, cap, rfl, _, hg, _⟩
  · simp [Value.ownBlock] at hk
  · simp only [Value.ownBlock, Option.some.injEq] at hk; omega
theorem Row.grown {w w' : World} {v : Value} {n size : Nat} {xs : List Value} {row : Option Nat} (h : Row w v n size xs) (hg : w.grownBy w' row) (hne : ∀ k, v.ownBlock = some k → row ≠ some k) : Row w' v n size xs := by
  cases row with
  | none => exact h.touch (b := w.heap.size) ⟨hg.os, hg.tape, hg.output, hg.size, fun i hi _ => hg.block i hi (by simp)⟩ (fun e => by have := h.own_lt e; omega)
  | some k => exact h.touch (b := k) ⟨hg.os, hg.tape, hg.output, hg.size, fun i hi hn => hg.block i hi (by simpa using hn)⟩ (fun e => hne k e rfl)

/-- each declaration's boxes lie in a row of their own, behind block b, none of them u's -/
structure OwnBoxes (w : World) (b : Nat) (u : Value) (ds : List Po.Decl) (vs : List Value) : Prop where
  len : vs.length = ds.length
  box : ∀ (i : Nat) (d : Po.Decl) (x : Value), ds[i]? = some d → vs[i]? = some x → Row w x d.boxes.length 4 (boxesCells d.boxes)
  far : ∀ x ∈ vs, ∀ k, x.ownBlock = some k → b < k ∧ k < w.heap.size ∧ u.ownBlock ≠ some k
theorem OwnBoxes.nil (w : World) (b : Nat) (u : Value) : OwnBoxes w b u [] [] := ⟨rfl, fun i d x h => by simp at h, fun x h => by simp at h⟩
theorem OwnBoxes.touch {w w' : World} {b : Nat} {u : Value} {ds : List Po.Decl} {vs : List Value} (h : OwnBoxes w b u ds vs) (ht : Touch b w w') : OwnBoxes w' b u ds vs :=
  ⟨h.len, fun i d x hd hx => (h.box i d x hd hx).touch ht (fun e => by have := (h.far x (List.mem_of_getElem? hx) b e).1; omega), fun x hx k hk => by
    have := h.far x hx k hk
    exact ⟨this.1, Nat.lt_of_lt_of_le this.2.1 ht.size, this.2.2⟩⟩
theorem OwnBoxes.snoc {w w' : World} {b : Nat} {u u' : Value} {ds : List Po.Decl} {vs : List Value} {d : Po.Decl} {x : Value} {n : Nat} (h : OwnBoxes w b u ds vs) (hx : Row w x d.boxes.length 4 (boxesCells d.boxes))
    (hfar : ∀ k, x.ownBlock = some k → b < k ∧ u.ownBlock ≠ some k) (hg : w.grownBy w' u.ownBlock) (hat : u'.ownBlock = u.ownBlock ∨ u'.ownBlock = some n) (hn : w.heap.size ≤ n) : OwnBoxes w' b u' (ds ++ [d]) (vs ++ [x]) := by
  have hsz := hg.size
  have key : ∀ y : Value, (∀ k, y.ownBlock = some k → b < k ∧ k < w.heap.size ∧ u.ownBlock ≠ some k) → ∀ k, y.ownBlock = some k → b < k ∧ k < w'.heap.size ∧ u'.ownBlock ≠ some k := by
    intro y hy k hk
    obtain ⟨h1, h2, h3⟩ := hy k hk
    refine ⟨h1, by omega, ?_⟩
    rcases hat with e | e
    · rw [e]; exact h3
    · rw [e]; intro e2; simp only [Option.some.injEq] at e2; omega
  refine ⟨by simp [h.len], ?_, ?_⟩
  · intro i d' y hd hy
    rcases Nat.lt_or_ge i ds.length with hi | hi
    · rw [List.getElem?_append_left hi] at hd
      rw [List.getElem?_append_left (by rw [h.len]; exact hi)] at hy
      exact (h.box i d' y hd hy).grown hg (fun k hk => (h.far y (List.mem_of_getElem? hy) k hk).2.2)
    · rw [List.getElem?_append_right hi] at hd
      rw [List.getElem?_append_right (by rw [h.len]; exact hi)] at hy
      have hi0 : i - ds.length = 0 := by
        rcases Nat.eq_zero_or_pos (i - ds.length) with h0 | h0
        · exact h0
        · rw [List.getElem?_eq_none (by simp; omega)] at hd; cases hd
      rw [h.len, hi0] at hy
      rw [hi0] at hd
      simp only [List.getElem?_cons_zero, Option.some.injEq] at hd hy
      subst hd hy
      exact hx.grown hg (fun k hk => (hfar k hk).2)
  · intro y hy
    rw [List.mem_append, List.mem_singleton] at hy
    rcases hy with hy | rfl
    · exact key y (h.far y hy)
    · exact key y (fun k hk => ⟨(hfar k hk).1, hx.own_lt hk, (hfar k hk).2⟩)

/-- a row of declarations in memory -/
structure Decls (w : World) (v : Value) (ds : List Po.Decl) (vs : List Value) : Prop where
  len : vs.length = ds.length
  row : Row w v ds.length 24 (declsCells ds vs)
  box : ∀ (i : Nat) (d : Po.Decl) (x : Value), ds[i]? = some d → vs[i]? = some x → Row w x d.boxes.length 4 (boxesCells d.boxes)
theorem Decls.ext {w w' : World} {v : Value} {ds : List Po.Decl} {vs : List Value} (h : Decls w v ds vs) (hb : Below w.heap.size w w') : Decls w' v ds vs :=
  ⟨h.len, h.row.ext hb, fun i d x hd hx => (h.box i d x hd hx).ext hb⟩

def ParsePost (L : Lx.Bytes) (e : Ending) (w' : World) : Prop :=
  match Po.parse L with
  | .ok ds => ∃ v vs, e = .returned (.tuple #[v, .agg #[.int .i64 0, .int .i64 0, .int .i64 0]]) ∧ Decls w' v ds vs
  | .error (er, l, c) => e = .returned (.tuple #[.slice none 0 0, .agg #[.int .i64 er, .int .i64 l, .int .i64 c]]) ∧ er ≠ 0

theorem parse_bad {L : Lx.Bytes} {f : Lx.Fault} (h : Lx.tokens L = .error f) : Po.parse L = .error f := by unfold Po.parse; rw [h]
theorem parse_ok {L : Lx.Bytes} {T : List Lx.Tok} (h : Lx.tokens L = .ok T) : Po.parse L = if (Po.parseS T (Lx.posOf L) (T.length + 1) Po.st0).f.1 = 0 then .ok (Po.parseV T (Lx.posOf L) (T.length + 1) Po.st0) else .error (Po.parseS T (Lx.posOf L) (T.length + 1) Po.st0).f := by
  unfold Po.parse; rw [h]

set_option maxRecDepth 100000 in
set_option maxHeartbeats 4000000 in
theorem parse_err {s : ByteArray} {w : World} (hs : s.size ≤ 140737488355328) {er l c : Nat} (hk : Lx.tokens s.data.toList = .error (er, l, c)) :
    Calls Tryd.prog 13 #[.string s] w fun e w' => ParsePost s.data.toList e w' ∧ Below w.heap.size w w' := by
  have hp := hid (parse_bad hk)
  have hn1 := Nat.le_refl w.heap.size
  have htk := tokens_any s (w.alloc (.cells #[.int .i64 0, .int .i64 0, .int .i64 0] 32)) hs
  unfold TokensPost at htk
  rw [hk] at htk
  have htk' := hid htk
  clear htk hk
  have hz1 := balloc w (.cells #[.int .i64 0, .int .i64 0, .int .i64 0] 32)
  have Q0 := hid hz1
  have B0 := hid (Blk.new w #[.int .i64 0, .int .i64 0, .int .i64 0] 32)
  clear hz1
  go_enter Tryd.func13, Tryd.ntmps13
  go_wp2_with fail
  refine htk'.out.mono ?_
  rintro e w1 ⟨⟨v, rfl, hr, her⟩, hb1⟩
  have hsz := hb1.size
  simp only [World.size_alloc] at hsz
  have Q1 := hid (bthen Q0.out hb1)
  have B1 := hid (B0.out.ext hb1)
  have hne : w.heap.size ≠ w1.heap.size := by omega
  have hne' : w1.heap.size ≠ w.heap.size := by omega
  have hn2 : w.heap.size ≤ w1.heap.size := by omega
  have C1 := hid (Blk.new w1 #[.int .i64 er, .int .i64 l, .int .i64 c] 32)
  have B2 := hid (B1.out.ext (balloc w1 (.cells #[.int .i64 er, .int .i64 l, .int .i64 c] 32)))
  have Q2 := hid (bthen Q1.out (balloc w1 (.cells #[.int .i64 er, .int .i64 l, .int .i64 c] 32)))
  obtain ⟨d0, d1, d2, df, dz⟩ := B2.out.three
  have h0 : ((er : Int) != 0) = true := by rw [bne_iff_ne]; omega
  clear hr
  go_wp2_with fail
  go_region_held3 (fun w' => w'.cell? ⟨w1.heap.size, 0, none⟩ = some (.int .i64 er) ∧ w'.cell? ⟨w1.heap.size, 1, none⟩ = some (.int .i64 l) ∧ w'.cell? ⟨w1.heap.size, 1 + 1, none⟩ = some (.int .i64 c)) (go_keep) (first | fail)
  go_wp2_with fail
  refine bodyPost_ret (v := .tuple #[.slice none 0 0, .agg #[.int .i64 er, .int .i64 l, .int .i64 c]]) (by simp [results, Tryd.results13, go_sem, d0, d1, d2]) rfl ⟨?_, (by simp only [below_setNew_iff hn1, below_drew_iff]; exact Q2.out)⟩
  unfold ParsePost
  rw [hp.out]
  exact ⟨rfl, her⟩

set_option maxRecDepth 100000 in
set_option maxHeartbeats 8000000 in
theorem parse_ok_any {s : ByteArray} {w : World} (hs : s.size ≤ 140737488355328) {T : List Lx.Tok} (hk : Lx.tokens s.data.toList = .ok T) :
    Calls Tryd.prog 13 #[.string s] w fun e w' => ParsePost s.data.toList e w' ∧ Below w.heap.size w w' := by
  obtain ⟨i0, hinf, hiz, hisz, hiby⟩ := info_parts Tryd.infoDecl
  have hTl := (Lx.tokens_bound hk).1
  have hp := hid (parse_ok hk)
  have hn1 := Nat.le_refl w.heap.size
  have htk := tokens_any s (w.alloc (.cells #[.int .i64 0, .int .i64 0, .int .i64 0] 32)) hs
  unfold TokensPost at htk
  rw [hk] at htk
  have htk' := hid htk
  clear htk hk
  have hz1 := balloc w (.cells #[.int .i64 0, .int .i64 0, .int .i64 0] 32)
  have Q0 := hid hz1
  have B0 := hid (Blk.new w #[.int .i64 0, .int .i64 0, .int .i64 0] 32)
  clear hz1
  have hps := Lx.posOf_le s.data.toList
  have hpe : ∃ e : Nat × Nat, Lx.posOf s.data.toList = e := ⟨_, rfl⟩
  obtain ⟨e, hpe⟩ := hpe
  rw [hpe] at hp
  have hpe' := hid hpe
  clear hpe hps
  go_enter Tryd.func13, Tryd.ntmps13
  go_wp2_with fail
  refine htk'.out.mono ?_
  rintro en w1 ⟨⟨v, rfl, hr⟩, hb1⟩
  have hsz := hb1.size
  simp only [World.size_alloc] at hsz
  have Q1 := hid (bthen Q0.out hb1)
  have B1 := hid (B0.out.ext hb1)
  have hz := balloc w1 (.cells #[.int .i64 0, .int .i64 0, .int .i64 0] 32)
  have B2 := hid (B1.out.ext hz)
  have Q2 := hid (bthen Q1.out hz)
  have hr2 := hid (hr.ext hz)
  have hvs : ∃ pa cp, v = .slice pa T.length cp := by
    rcases tokRow_of hr with ⟨rfl, rfl⟩ | ⟨g, off, cap, rfl, _⟩
    · exact ⟨_, _, rfl⟩
    · exact ⟨_, _, rfl⟩
  obtain ⟨pa, cp, rfl⟩ := hvs
  clear hr hz
  go_wp2_with fail
  refine (end_any s _ hs).mono ?_
  rintro en w3 ⟨rfl, hb3⟩
  rw [hpe'.out]
  have hsz3 := hb3.size
  simp only [World.size_alloc] at hsz3
  have B3 := hid (B2.out.ext hb3)
  have Q3 := hid (bthen Q2.out hb3)
  have hr3 := hid (hr2.out.ext hb3)
  have hz := balloc w3 (.cells #[.slice pa T.length cp, .int .i64 0, .int .i64 e.1, .int .i64 e.2, .int .i64 0, .int .i64 0, .int .i64 0] 67)
  have B4 := hid (B3.out.ext hz)
  have Q4 := hid (bthen Q3.out hz)
  have hr4 := hid (hr3.out.ext hz)
  have hP4 : Hid (PRd (w3.alloc (.cells #[.slice pa T.length cp, .int .i64 0, .int .i64 e.1, .int .i64 e.2, .int .i64 0, .int .i64 0, .int .i64 0] 67)) w3.heap.size pa cp T e Po.st0) := by
    refine hid ⟨Blk.new w3 _ _, ?_, Nat.zero_le _, by omega⟩
    rcases tokRow_of hr4.out with ⟨_, h⟩ | ⟨g, off, cap, hv, hg⟩
    · exact .inl h
    · cases hv
      refine .inr ⟨g, off, rfl, hg, ?_⟩
      rcases tokRow_of hr3.out with ⟨h, _⟩ | ⟨g', off', cap', hv', hg'⟩
      · cases h
      · cases hv'
        have := hg'.lt
        omega
  have hbb : w.heap.size < w3.heap.size := by omega
  have hbw : w.heap.size ≤ w3.heap.size := by omega
  have hsz4 : w3.heap.size < (w3.alloc (.cells #[.slice pa T.length cp, .int .i64 0, .int .i64 e.1, .int .i64 e.2, .int .i64 0, .int .i64 0, .int .i64 0] 67)).heap.size := by rw [World.size_alloc]; omega
  have hsz4w : (w3.alloc (.cells #[.slice pa T.length cp, .int .i64 0, .int .i64 e.1, .int .i64 e.2, .int .i64 0, .int .i64 0, .int .i64 0] 67)).heap.size ≤ w3.heap.size + 1 := by rw [World.size_alloc]; omega
  clear hz
  go_wp2_with fail
  generalize hbe : w3.heap.size = b at *
  have hbe' := hid hbe
  clear hbe
  go_loopg [7] (T.length + 1) (fun g u wr => ∃ (n : Nat) (ds : List Po.Decl) (vs : List Value) (st : Po.St), n = ds.length ∧ Po.Parsing T e Po.st0 g ds st ∧ PRd wr b pa cp T e st ∧ wr.ownsRow (b + 1) 44 24 u n (declsCells ds vs) ∧ OwnBoxes wr b u ds vs ∧
    Blk wr w.heap.size #[.int .i64 0, .int .i64 0, .int .i64 0] 32 ∧ Below w.heap.size w wr)
  case atStart => exact ⟨0, [], [], Po.st0, rfl, Po.Parsing.begin _ _ _, hP4.out, World.ownsRow_nil _ _ _ _, OwnBoxes.nil _ _ _, B4.out, Q4.out⟩
  case round =>
    obtain ⟨n, ds, vs, st, hn, hB, hP, hO, hX, hF, hQ⟩ := hrel
    have hn' := hid hn
    have hB' := hid hB
    have hP' := hid hP
    have hO' := hid hO
    have hX' := hid hX
    have hF' := hid hF
    have hQ' := hid hQ
    have hnT : n + gk ≤ T.length + 1 := by rw [hn]; exact hB.len
    clear hn hB hP hO hX hF hQ
    by_cases hl : st.at_ < T.length
    · by_cases h0 : st.f.1 = 0
      · have hg := hB'.out.pos hl h0
        obtain ⟨gk', rfl⟩ : ∃ g', gk = g' + 1 := ⟨gk - 1, by omega⟩
        have hB2 := hid (hB'.out.step hl h0)
        obtain ⟨hzz, c0, c1, c2, c3, c4, c5, c6, hf⟩ := hP'.out.f
        have hz0 : ((st.f.1 : Nat) : Int) = 0 := by omega
        rw [hz0] at c4
        clear hz0 h0
        go_wp2_with fail
        clear c0 c1 c2 c3 c4 c5 c6 hf hzz
        refine (pdecl_any hP'.out).mono ?_
        rintro en w5 ⟨v5, rfl, hrow, hown, h5, t5⟩
        have h5' := hid h5
        have o5 := hid (owns_touch hO'.out t5 (by omega))
        have x5 := hid (hX'.out.touch t5)
        have f5 := hid (Blk.touch hF'.out t5 (by omega))
        have q5 := hid (hQ'.out.trans (t5.to_below hQ'.out.size hbw))
        have hrow' := hid hrow
        have hlt5 := h5.blk.lt
        have hfar : Hid (∀ k, v5.ownBlock = some k → b < k ∧ u7.ownBlock ≠ some k) := hid (fun k hk => ⟨by have := hown k hk; have := hP'.out.blk.lt; omega, fun e2 => by
          have h1 := hown k hk
          have h2 := (Row.of_owns hO'.out).own_lt e2
          omega⟩)
        clear h5 t5 hrow hown
        generalize Po.declV T e st = D at *
        have hcap : n + 1 ≤ maxLen := by unfold maxLen; omega
        have hc1 := hid (cells_new w5 (declCells D v5).toList 44 (k := w5.heap.size) rfl)
        rw [Array.toArray_toList] at hc1
        have hal := hid (o5.out.alloc (.cells (declCells D v5) 44))
        have hone : Hid (∀ u ∈ (declCells D v5).toList, u.oneCell' = true) := by
          have h1 : v5.oneCell' = true := by obtain ⟨p, l, c, rfl⟩ := Row.shape hrow'.out; rfl
          exact hid (fun u hu => (Array.all_eq_true_iff_forall_mem.1 (declCells_one D h1)) u (by simpa using hu))
        have hz5 := q5.out.size
        have hlen24 : (declCells D v5).toList.length = 24 := rfl
        go_wp2_with (first | (refine wpList_buildOne rfl 22 44 (.tmp 39) rfl 40 rfl Tryd.underlying22 i0 _ hinf hiz 24 hisz (by decide) (by decide) (declCells D v5) rfl rfl ?_) | (at_builtin; refine Go.wpList_append_own_at _ rfl _ _ 22 rfl (b + 1) 44 i0 _ 24 240 Tryd.underlying22 hinf hiz hisz hiby rfl (by decide) _ _ _ rfl hal.out ⟨w5.heap.size, 0, none⟩ 1 1 (declCells D v5).toList rfl hlen24 hc1.out hone.out hcap (by omega) (by simp; omega) ?_; intro v6 w6 hown6 hgrow _ hat6))
        go_roundg gk'
        case measure => omega
        case rel =>
          have ha5 := balloc w5 (.cells (declCells D v5) 44)
          refine ⟨n + 1, ds ++ [D], vs ++ [v5], _, by rw [List.length_append, ← hn'.out]; rfl, hB2.out, ?_, ?_, ?_, ?_, ?_⟩
          · exact PRd.grown hP4.out (h5'.out.ext ha5) hgrow (fun k hk => Nat.le_trans hsz4w (hal.out.lt k hk).1)
          · rw [declsCells_snoc x5.out.len]; exact hown6
          · exact OwnBoxes.snoc (x5.out.touch (Touch.of_below ha5)) (hrow'.out.ext ha5) hfar.out hgrow hat6 (Nat.le_refl _)
          · exact Blk.grown (f5.out.alloc _) hgrow (own_ne hal.out (by omega))
          · exact (q5.out.alloc q5.out.size _).grown hgrow (by rw [World.size_alloc]; omega) (fun k hk => by have := (hal.out.lt k hk).1; omega)
      · have hst := hid (hB'.out.stop (fun x => h0 x.2))
        obtain ⟨i, fe, fl, fc⟩ := st
        simp only at hl h0
        obtain ⟨hzz, c0, c1, c2, c3, c4, c5, c6, hf⟩ := hP'.out.f
        simp only at c0 c1 c2 c3 c4 c5 c6
        obtain ⟨d0, d1, d2, df, dz⟩ := hF'.out.three
        have e1 : ((fe : Int) == 0) = false := by rw [beq_eq_false_iff_ne]; omega
        have e2 : ((fe : Int) != 0) = true := by rw [bne_iff_ne]; omega
        have h0' := hid h0
        have nbw : w.heap.size ≠ b := by omega
        have nwb : b ≠ w.heap.size := by omega
        clear h0
        go_wp2_with fail
        go_region_held3 (fun w' => w'.cell? ⟨b, 4, none⟩ = some (.int .i64 fe) ∧ w'.cell? ⟨b, 4 + 1, none⟩ = some (.int .i64 fl) ∧ w'.cell? ⟨b, 4 + 1 + 1, none⟩ = some (.int .i64 fc)) (go_keep) (first | fail)
        go_wp2_with fail
        refine bodyPost_ret (v := .tuple #[.slice none 0 0, .agg #[.int .i64 fe, .int .i64 fl, .int .i64 fc]]) (by simp [results, Tryd.results13, go_sem, d0, d1, d2]) rfl ⟨?_, (by simp only [below_setNew_iff hn1, below_drew_iff]; exact hQ'.out)⟩
        unfold ParsePost
        rw [hp.out, hst.out.2, if_neg (by exact h0'.out)]
        exact ⟨rfl, h0'.out⟩
    · have hst := hid (hB'.out.stop (fun x => hl x.1))
      obtain ⟨i, fe, fl, fc⟩ := st
      simp only at hl
      have hl' : decide ((i : Int) < T.length) = false := decide_eq_false (by omega)
      obtain ⟨hzz, c0, c1, c2, c3, c4, c5, c6, hf⟩ := hP'.out.f
      simp only at c0 c1 c2 c3 c4 c5 c6
      obtain ⟨d0, d1, d2, df, dz⟩ := hF'.out.three
      have nbw : w.heap.size ≠ b := by omega
      have nwb : b ≠ w.heap.size := by omega
      by_cases h0 : fe = 0
      · subst h0
        go_wp2_with fail
        refine bodyPost_ret (v := .tuple #[u7, .agg #[.int .i64 0, .int .i64 0, .int .i64 0]]) (by simp [results, Tryd.results13, go_sem, d0, d1, d2]) rfl ⟨?_, (by simp only [below_setNew_iff hn1]; exact hQ'.out)⟩
        unfold ParsePost
        rw [hp.out, hst.out.2, hst.out.1, if_pos rfl]
        have ht := hid (((((Touch.refl w.heap.size wr).setCell 0 (.int .i64 0)).setCell 1 (.int .i64 0)).setCell (1 + 1) (.int .i64 0)))
        refine ⟨u7, vs, rfl, hX'.out.len, ?_, ?_⟩
        · rw [← hn'.out]
          exact Row.of_owns (owns_touch hO'.out ht.out (by omega))
        · intro i d x hd hx
          exact (hX'.out.box i d x hd hx).touch ht.out (fun e2 => by have := (hX'.out.far x (List.mem_of_getElem? hx) _ e2).1; omega)
      · have e2 : ((fe : Int) != 0) = true := by rw [bne_iff_ne]; omega
        have h0' := hid h0
        clear h0
        go_wp2_with fail
        go_region_held3 (fun w' => w'.cell? ⟨b, 4, none⟩ = some (.int .i64 fe) ∧ w'.cell? ⟨b, 4 + 1, none⟩ = some (.int .i64 fl) ∧ w'.cell? ⟨b, 4 + 1 + 1, none⟩ = some (.int .i64 fc)) (go_keep) (first | fail)
        go_wp2_with fail
        refine bodyPost_ret (v := .tuple #[.slice none 0 0, .agg #[.int .i64 fe, .int .i64 fl, .int .i64 fc]]) (by simp [results, Tryd.results13, go_sem, d0, d1, d2]) rfl ⟨?_, (by simp only [below_setNew_iff hn1, below_drew_iff]; exact hQ'.out)⟩
        unfold ParsePost
        rw [hp.out, hst.out.2, if_neg (by exact h0'.out)]
        exact ⟨rfl, h0'.out⟩

theorem parse_any (s : ByteArray) (w : World) (hs : s.size ≤ 140737488355328) :
    Calls Tryd.prog 13 #[.string s] w fun e w' => ParsePost s.data.toList e w' ∧ Below w.heap.size w w' := by
  cases hk : Lx.tokens s.data.toList with
  | error x => obtain ⟨er, l, c⟩ := x; exact parse_err hs hk
  | ok T => exact parse_ok_any hs hk

end Go.Proofs.YtnoieobjfihbeaaDoor

namespace Go.Proofs.YtnoieobjfihbeaaDoor
open Go.RowKit Go.Sort

theorem numbers_row {g : Nat} {ns : List Int} {w : World} (h : ∀ (j : Nat) (hj : j < ns.length), w.cell? ⟨g, 0 + j, none⟩ = some (.int .i64 ns[j])) (hl : ns.length ≤ 4) (cp : Nat) (_hcp : ns.length ≤ cp) :
    Calls Tryd.prog 37 #[.slice (some ⟨g, 0, none⟩) ns.length cp] w fun e w' => e = .returned (.bool (ns.all Ru.num)) ∧ w = w' := by
  have h' := hid h
  clear h
  go_enter Tryd.func37, Tryd.ntmps37
  go_wp2_with fail
  go_loop [7] (fun u => ∃ i : Nat, u = .int .i64 i ∧ i ≤ ns.length ∧ (ns.take i).all Ru.num = true) (fun u => ns.length - (intOf u).toNat)
  case atStart => exact ⟨0, rfl, Nat.zero_le _, rfl⟩
  case round =>
    obtain ⟨i, rfl, hle, hall⟩ := hrel
    have hall' := hid hall
    clear hall
    by_cases hlt : i < ns.length
    · have hc := h'.out i hlt
      rw [Nat.zero_add] at hc
      have hyes := hid (fun h => all_take hlt hall'.out h)
      have hno := hid (fun h => all_no (p := Ru.num) hlt h)
      generalize ns[i] = n at *
      by_cases h0 : n < 0
      · have hy := hid (hno.out (by unfold Ru.num; simp; omega))
        go_wp2_with fail
        go_ret
        exact ⟨ret_bool hy.out.symm, rfl⟩
      · by_cases h1 : 65535 < n
        · have hy := hid (hno.out (by unfold Ru.num; simp; omega))
          go_wp2_with fail
          go_ret
          exact ⟨ret_bool hy.out.symm, rfl⟩
        · have hy := hid (hyes.out (by unfold Ru.num; simp; omega))
          go_wp2_with fail
          go_round
          case rel => exact ⟨i + 1, by go_num, by omega, hy.out⟩
          case measure => simp [intOf]; omega
    · obtain rfl : i = ns.length := by omega
      have hf := hid (show ns.all Ru.num = true by have h := hall'.out; rwa [List.take_of_length_le (Nat.le_refl _)] at h)
      go_wp2_with fail
      go_ret
      exact ⟨ret_bool hf.out.symm, rfl⟩

theorem numbers1_any (a : Int) (w : World) {k : Nat} (hk : k = w.heap.size) : Calls Tryd.prog 37 #[.slice (some ⟨k, 0, none⟩) 1 1] (w.alloc (.cells #[.int .i64 a] 3)) fun e w' => e = .returned (.bool (Ru.num a)) ∧ Below w.heap.size w w' := by
  subst hk
  have hb := Blk.new w #[.int .i64 a] 3
  refine (numbers_row (g := w.heap.size) (ns := [a]) (fun j hj => ?_) (by simp) 1 (by simp)).mono fun e w' h => ⟨by rw [h.1]; simp, h.2 ▸ balloc w _⟩
  obtain rfl : j = 0 := by simpa using hj
  exact hb.cell 0 rfl
theorem numbers3v_any (a b c : Int) (w : World) {k : Nat} (hk : k = w.heap.size) : Calls Tryd.prog 37 #[.slice (some ⟨k, 0, none⟩) 3 3] (w.alloc (.cells #[.int .i64 a, .int .i64 b, .int .i64 c] 3)) fun e w' => e = .returned (.bool (Ru.num a && Ru.num b && Ru.num c)) ∧ Below w.heap.size w w' := by
  subst hk
  have hb := Blk.new w #[.int .i64 a, .int .i64 b, .int .i64 c] 3
  refine (numbers_row (g := w.heap.size) (ns := [a, b, c]) (fun j hj => ?_) (by simp) 3 (by simp)).mono fun e w' h => ⟨by rw [h.1]; simp [Bool.and_assoc], h.2 ▸ balloc w _⟩
  have : j = 0 ∨ j = 1 ∨ j = 2 := by simp only [List.length_cons, List.length_nil] at hj; omega
  rcases this with rfl | rfl | rfl
  · exact hb.cell 0 rfl
  · exact hb.cell 1 rfl
  · exact hb.cell 2 rfl
theorem numbers4v_any (x : Po.Box) (w : World) {k : Nat} (hk : k = w.heap.size) : Calls Tryd.prog 37 #[.slice (some ⟨k, 0, none⟩) 4 4] (w.alloc (.cells #[.int .i64 x.x0, .int .i64 x.y0, .int .i64 x.x1, .int .i64 x.y1] 3)) fun e w' => e = .returned (.bool (Ru.boxN x)) ∧ Below w.heap.size w w' := by
  subst hk
  have hb := Blk.new w #[.int .i64 x.x0, .int .i64 x.y0, .int .i64 x.x1, .int .i64 x.y1] 3
  refine (numbers_row (g := w.heap.size) (ns := [x.x0, x.y0, x.x1, x.y1]) (fun j hj => ?_) (by simp) 4 (by simp)).mono fun e w' h => ⟨by rw [h.1]; unfold Ru.boxN; simp [Bool.and_assoc], h.2 ▸ balloc w _⟩
  have : j = 0 ∨ j = 1 ∨ j = 2 ∨ j = 3 := by simp only [List.length_cons, List.length_nil] at hj; omega
  rcases this with rfl | rfl | rfl | rfl
  · exact hb.cell 0 rfl
  · exact hb.cell 1 rfl
  · exact hb.cell 2 rfl
  · exact hb.cell 3 rfl

def whoArr (x : Po.Who) : Array Value := #[.bool x.any, .string x.name, .int .i64 x.n, .int .i64 x.line, .int .i64 x.col]
theorem empty_eq (s : ByteArray) : (s.toList.isEmpty) = (s.data.toList == []) := by
  rw [ByteArray.toList_eq]; cases s.data.toList <;> rfl

theorem zero_any (x : Po.Who) (w : World) : Calls Tryd.prog 38 #[.agg (whoArr x)] w fun e w' => e = .returned (.bool (Ru.zeroW x)) ∧ Below w.heap.size w w' := by
  have e := hid (show Ru.zeroW x = _ from by unfold Ru.zeroW; rw [← empty_eq])
  obtain ⟨any, name, n, line, col⟩ := x
  simp only at e
  unfold whoArr
  simp only
  go_enter Tryd.func38, Tryd.ntmps38
  go_wp2
  all_goals
    go_ret
    rw [e.out]
    refine ⟨ret_bool ?_, balloc w _⟩
    clear e
    simp_all

theorem wright_any (x : Po.Who) (w : World) (hs : x.name.size ≤ 140737488355328) : Calls Tryd.prog 43 #[.agg (whoArr x)] w fun e w' => e = .returned (.bool (Ru.rightW x)) ∧ Below w.heap.size w w' := by
  have e := hid (show Ru.rightW x = _ from by unfold Ru.rightW; rw [← empty_eq])
  have hnm := hid (name_any x.name)
  have Q0 := hid (balloc w (.cells (whoArr x) 42))
  obtain ⟨any, name, n, line, col⟩ := x
  simp only at e hs hnm Q0
  unfold whoArr at *
  simp only at Q0 ⊢
  cases any with
  | true =>
    go_enter Tryd.func43, Tryd.ntmps43
    go_wp2_with fail
    all_goals
      go_ret
      rw [e.out]
      refine ⟨ret_bool ?_, balloc w _⟩
      clear e hnm Q0
      simp_all
  | false =>
    cases hem : name.toList.isEmpty with
    | true =>
      have e2 := hid (show Ru.rightW ⟨false, name, n, line, col⟩ = Ru.num n by rw [e.out, hem]; rfl)
      have hem' : name.toList = [] := by simpa using hem
      clear e hem
      go_enter Tryd.func43, Tryd.ntmps43
      go_wp2_with fail
      refine (numbers1_any n _ (by simp)).mono ?_
      rintro en w1 ⟨rfl, hb1⟩
      go_wp2_with fail
      go_ret
      exact ⟨ret_bool e2.out.symm, bthen Q0.out hb1⟩
    | false =>
      have e2 := hid (show Ru.rightW ⟨false, name, n, line, col⟩ = (n == 0 && Lx.isName name.data.toList) by rw [e.out, hem]; rfl)
      have hem' : ¬ name.toList = [] := by simpa using hem
      have hem2 : (name.toList == []) = false := beq_eq_false_iff_ne.2 hem'
      clear e
      by_cases hn : n = 0
      · have kn : (n == 0) = true := beq_iff_eq.2 hn
        rw [kn] at e2
        clear hn
        go_enter Tryd.func43, Tryd.ntmps43
        go_wp2_with fail
        refine (hnm.out _ hs).mono ?_
        rintro en w1 ⟨rfl, hb1⟩
        go_wp2_with fail
        go_ret
        exact ⟨ret_bool e2.out.symm, bthen Q0.out hb1⟩
      · have kn : (n == 0) = false := beq_eq_false_iff_ne.2 hn
        rw [kn] at e2
        clear hn
        go_enter Tryd.func43, Tryd.ntmps43
        go_wp2_with fail
        go_ret
        exact ⟨ret_bool e2.out.symm, Q0.out⟩
theorem wplace_any (x : Po.Who) (w : World) (hs : x.name.size ≤ 140737488355328) : Calls Tryd.prog 71 #[.agg (whoArr x)] w fun e w' => e = .returned (.bool (Ru.placeW x)) ∧ Below w.heap.size w w' := by
  have e := hid (show Ru.placeW x = _ from by unfold Ru.placeW; rw [bne, ← empty_eq])
  have hr := hid (wright_any x)
  have B0 := hid (Blk.new w (whoArr x) 42)
  have Q0 := hid (balloc w (.cells (whoArr x) 42))
  cases hrr : Ru.rightW x with
  | false =>
    rw [hrr] at hr e
    obtain ⟨any, name, n, line, col⟩ := x
    simp only at e hs hr Q0 B0 hrr
    have hrr' := hid hrr
    clear hrr
    unfold whoArr at *
    simp only at Q0 hr B0 ⊢
    go_enter Tryd.func71, Tryd.ntmps71
    go_wp2_with fail
    refine (hr.out _ hs).mono ?_
    rintro en w1 ⟨rfl, hb1⟩
    go_wp2_with fail
    go_ret
    exact ⟨ret_bool e.out.symm, bthen Q0.out hb1⟩
  | true =>
    rw [hrr] at hr e
    obtain ⟨any, name, n, line, col⟩ := x
    simp only at e hs hr Q0 B0 hrr
    have hrr' := hid hrr
    clear hrr
    unfold whoArr at *
    simp only at Q0 hr B0 ⊢
    go_enter Tryd.func71, Tryd.ntmps71
    go_wp2_with fail
    refine (hr.out _ hs).mono ?_
    rintro en w1 ⟨rfl, hb1⟩
    have Q1 := hid (bthen Q0.out hb1)
    obtain ⟨x0, x1, x2, x3, x4, xf, xz⟩ := (B0.out.ext hb1).five
    clear hb1
    go_wp2_with fail
    all_goals
      go_ret
      rw [e.out]
      refine ⟨ret_bool ?_, Q1.out⟩
      clear e hr Q0 B0 Q1 hrr' x0 x1 x2 x3 x4 xf xz hs
      simp_all

end Go.Proofs.YtnoieobjfihbeaaDoor

namespace Go.Proofs.YtnoieobjfihbeaaDoor.Ru
open Po (Box Who Decl)

/-! ### what a declaration may be, by the reference -/
def rMay (w : Who) : Bool := if w.any then w.name.data.toList == [] && w.n == 0 else (w.name.data.toList == [] && num w.n || Lx.isName w.name.data.toList && w.n == 0)
def rNamed (d : Decl) : Bool := decide (d.kind ≤ 3) && Lx.isName d.name.data.toList || decide (3 < d.kind) && d.name.data.toList == []
def rNumber (d : Decl) : Bool := decide (d.kind ≤ 2) && num d.n || decide (2 < d.kind) && d.n == 0
def rBoxes0 (d : Decl) : Bool := (d.kind == 3) == decide ((0 : Int) < d.boxes.length)
def rBoxes (d : Decl) : Bool := d.boxes.foldl (fun b x => b && boxN x) (rBoxes0 d)
def rRole (d : Decl) : Bool := decide (3 < d.kind) && rMay d.role || decide (d.kind ≤ 3) && zeroW d.role
def rRest (d : Decl) : Bool :=
  if d.kind = 4 ∨ d.kind = 5 then rMay d.label && rMay d.place && (d.place.any || d.place.name.data.toList != []) && num d.lo && num d.hi && num d.zoom
  else zeroW d.label && zeroW d.place && d.lo == 0 && d.hi == 0 && d.zoom == 0
def rRight (d : Decl) : Bool := if d.kind < 1 ∨ 6 < d.kind then false else rNamed d && rNumber d && rBoxes d && rRole d && rRest d

theorem rMay_eq (w : Who) : rMay w = rightW w := by
  unfold rMay rightW
  cases w.any with
  | true => rfl
  | false =>
    by_cases h : w.name.data.toList = []
    · have : Lx.isName ([] : Lx.Bytes) = false := rfl
      simp [h, this]
    · have h1 : (w.name.data.toList == []) = false := beq_eq_false_iff_ne.2 h
      simp only [h1, Bool.false_and, Bool.false_or, Bool.false_eq_true, if_false]
      exact Bool.and_comm _ _
theorem foldl_and {α : Type} (f : α → Bool) (l : List α) : ∀ b, l.foldl (fun b x => b && f x) b = (b && l.all f) := by
  induction l with
  | nil => intro b; simp
  | cons x l ih => intro b; rw [List.foldl_cons, ih, List.all_cons, Bool.and_assoc]
theorem len_pos (l : List Box) : decide ((0 : Int) < l.length) = !((l.length : Int) == 0) := by
  rw [Bool.eq_iff_iff, Bool.not_eq_true', beq_eq_false_iff_ne, decide_eq_true_eq]
  omega
theorem len_zero {l : List Box} (h : ((l.length : Int) == 0) = true) : l = [] := by
  rw [beq_iff_eq] at h
  exact List.eq_nil_of_length_eq_zero (by omega)
theorem may_eq (d : Decl) : rRight d = may d := by
  unfold rRight may
  by_cases hk : d.kind < 1 ∨ 6 < d.kind
  · rw [if_pos hk, if_neg (by omega), if_neg (by omega), if_neg (by omega), if_neg (by omega)]
  · rw [if_neg hk]
    have h6 : d.kind = 1 ∨ d.kind = 2 ∨ d.kind = 3 ∨ d.kind = 4 ∨ d.kind = 5 ∨ d.kind = 6 := by omega
    have hb : rBoxes d = (rBoxes0 d && d.boxes.all boxN) := foldl_and _ _ _
    rw [hb]
    unfold rNamed rNumber rBoxes0 rRole rRest
    rw [len_pos, rMay_eq, rMay_eq, rMay_eq]
    unfold noRule noName ruleD placeW boxesN
    rw [len_pos]
    cases hl : ((d.boxes.length : Int) == 0) with
    | true =>
      have h0 := len_zero hl
      rw [h0]
      rcases h6 with h | h | h | h | h | h <;> rw [h] <;> simp <;> (try (rw [Bool.eq_iff_iff]; simp only [Bool.and_eq_true])) <;> (try (constructor <;> (intro hh; simp_all; done)))
    | false =>
      rcases h6 with h | h | h | h | h | h <;> rw [h] <;> simp <;> (try (rw [Bool.eq_iff_iff]; simp only [Bool.and_eq_true])) <;> (try (constructor <;> (intro hh; simp_all; done)))

theorem may_kind {d : Decl} (h : may d = true) : 1 ≤ d.kind ∧ d.kind ≤ 6 := by
  unfold may at h
  split at h
  · omega
  · split at h
    · omega
    · split at h
      · omega
      · split at h
        · omega
        · cases h
theorem may_boxes {d : Decl} (h : may d = true) (hk : d.kind ≠ 3) : d.boxes = [] := by
  unfold may at h
  by_cases h1 : d.kind = 1 ∨ d.kind = 2
  · rw [if_pos h1] at h; simp only [Bool.and_eq_true] at h; exact len_zero h.1.1.2
  · rw [if_neg h1, if_neg hk] at h
    by_cases h4 : d.kind = 4 ∨ d.kind = 5
    · rw [if_pos h4] at h; simp only [noName, Bool.and_eq_true] at h; exact len_zero h.1.2
    · rw [if_neg h4] at h
      by_cases h6 : d.kind = 6
      · rw [if_pos h6] at h; simp only [noName, Bool.and_eq_true] at h; exact len_zero h.1.1.2
      · rw [if_neg h6] at h; cases h

/-! ### the reference's -/
def rsum (ahead : List Decl) (k : Int) (w : Who) : Except Int Int :=
  if w.any then .ok 255
  else if w.name.data.toList = [] then (if 7 < w.n then .error 33 else .ok (2 ^ w.n.toNat))
  else match declared ahead k w.name with
    | none => .error 21
    | some d => if 7 < d.n then .error 33 else .ok (2 ^ d.n.toNat)
def rwhere (ahead : List Decl) (w : Who) : Except Int (List Box) :=
  if w.any then .ok [grid] else match declared ahead 3 w.name with | none => .error 21 | some g => .ok g.boxes
def rrule (ahead : List Decl) (d : Decl) (n boxes : Int) : Except F3 Rule :=
  if 32 ≤ n then .error (2, d.line, d.col)
  else match rsum ahead 1 d.role with
    | .error e => .error (e, d.role.line, d.role.col)
    | .ok roles =>
      if d.kind = 6 then .ok ⟨d.kind, roles, 0, 0, 0, [], 0⟩
      else if d.hi < d.lo ∨ 7 < d.hi then .error (33, d.line, d.col)
      else match rsum ahead 2 d.label with
        | .error e => .error (e, d.label.line, d.label.col)
        | .ok labels => match rwhere ahead d.place with
          | .error e => .error (e, d.place.line, d.place.col)
          | .ok bs =>
            if 32 < boxes + bs.length then .error (2, d.line, d.col)
            else if 16 < d.zoom then .error (33, d.line, d.col)
            else .ok ⟨d.kind, roles, d.lo, d.hi, labels, bs, d.zoom⟩
def rbad (d : Decl) : Bool := d.boxes.foldl (fun b x => b || !boxR x) (decide (d.kind < 3) && decide (7 < d.n))
def rrun : List Decl → List Decl → List Rule → Int → Except F3 (List Rule)
  | _, [], out, _ => .ok out
  | a, d :: r, out, boxes =>
    if 3 < d.kind then match rrule a d out.length boxes with
      | .error f => .error f
      | .ok x => rrun (a ++ [d]) r (out ++ [x]) (boxes + x.boxes.length)
    else if (declared a d.kind d.name).isSome then .error (20, d.line, d.col)
    else if rbad d then .error (33, d.line, d.col)
    else rrun (a ++ [d]) r out boxes
def rcheckV (l : List Decl) : Except F3 (List Rule) := if l.all rRight then rrun [] l [] 0 else .error (1, 0, 0)

theorem foldl_or {α : Type} (f : α → Bool) (l : List α) : ∀ b, l.foldl (fun b x => b || !f x) b = (b || !l.all f) := by
  induction l with
  | nil => intro b; simp
  | cons x l ih => intro b; rw [List.foldl_cons, ih, List.all_cons, Bool.not_and, Bool.or_assoc]
theorem rsum_eq (ahead : List Decl) (k : Int) (w : Who) : rsum ahead k w = if setE ahead k w = 0 then .ok (setN ahead k w) else .error (setE ahead k w) := by
  unfold rsum setE setN whoN
  cases w.any with
  | true => rfl
  | false =>
    simp only [Bool.false_eq_true, if_false]
    by_cases h : w.name.data.toList = []
    · simp only [h, if_true, ne_eq, not_true, false_and, if_false]
      by_cases h7 : 7 < w.n
      · simp [h7]
      · simp [h7]
    · simp only [h, if_false, ne_eq, not_false_eq_true, true_and]
      cases hd : declared ahead k w.name with
      | none => simp
      | some d =>
        simp only [reduceCtorEq, if_false]
        by_cases h7 : 7 < d.n
        · simp [h7]
        · simp [h7]
theorem rwhere_eq (ahead : List Decl) (w : Who) : rwhere ahead w = if whereE ahead w = 0 then .ok (whereB ahead w) else .error (whereE ahead w) := by
  unfold rwhere whereE whereB
  cases w.any with
  | true => rfl
  | false =>
    simp only [Bool.false_eq_true, if_false]
    cases declared ahead 3 w.name with
    | none => simp
    | some d => simp
theorem setE_vals (ahead : List Decl) (k : Int) (w : Who) : setE ahead k w = 0 ∨ setE ahead k w = 21 ∨ setE ahead k w = 33 := by
  unfold setE
  split
  · exact .inl rfl
  · split
    · exact .inr (.inl rfl)
    · split
      · exact .inr (.inr rfl)
      · exact .inl rfl
theorem whereE_vals (ahead : List Decl) (w : Who) : whereE ahead w = 0 ∨ whereE ahead w = 21 := by
  unfold whereE
  split
  · exact .inl rfl
  · split
    · exact .inl rfl
    · exact .inr rfl

/-- a state that stopped stays -/
theorem wrong_stopped {c : Ck} (h : c.f.1 ≠ 0) (e l k : Int) : c.wrong e l k = c := by unfold Ck.wrong; rw [if_neg h]
theorem wrongIf_stopped {c : Ck} (h : c.f.1 ≠ 0) (e l k : Int) : c.wrongIf e l k = c := by
  unfold Ck.wrongIf
  split
  · rfl
  · exact wrong_stopped h _ _ _
theorem wrong_f {c : Ck} (h : c.f.1 = 0) (e l k : Int) : c.wrong e l k = { c with f := (e, l, k) } := by unfold Ck.wrong; rw [if_pos h]
theorem wrongIf_f {c : Ck} (h : c.f.1 = 0) {e : Int} (he : e ≠ 0) (l k : Int) : c.wrongIf e l k = { c with f := (e, l, k) } := by unfold Ck.wrongIf; rw [if_neg he, wrong_f h]
theorem wrongIf_zero (c : Ck) (l k : Int) : c.wrongIf 0 l k = c := by unfold Ck.wrongIf; rw [if_pos rfl]

theorem ckRule_eq (ahead : List Decl) (c : Ck) (d : Decl) (h0 : c.f = (0, 0, 0)) (hn : c.rules.length ≤ 32) :
    match rrule ahead d c.rules.length c.boxes with
    | .error f => (ckRule ahead c d).f = f ∧ f.1 ≠ 0
    | .ok x => ckRule ahead c d = ⟨c.rules ++ [x], c.boxes + x.boxes.length, (0, 0, 0)⟩ ∧ c.rules.length < 32 := by
  obtain ⟨rules, boxes, f⟩ := c
  simp only at h0 hn
  subst h0
  have v1 := setE_vals ahead 1 d.role
  have v2 := setE_vals ahead 2 d.label
  have v3 := whereE_vals ahead d.place
  unfold rrule
  rw [rsum_eq, rsum_eq, rwhere_eq]
  unfold ckRule ckCloak ckZoom ckBoxes ckMore ckWhere ckLabel ckTier ckRole ckLong ckRuleOf
  simp only
  by_cases hl : rules.length = 32
  · have hl' : (32 : Int) ≤ rules.length := by omega
    simp [hl, Ck.wrong, Ck.wrongIf]
    split <;> simp
    all_goals (repeat' split) <;> simp_all
  · have hl' : ¬ (32 : Int) ≤ rules.length := by omega
    have hl3 : rules.length < 32 := by omega
    simp only [hl, hl', if_false]
    by_cases h1 : setE ahead 1 d.role = 0
    · rw [h1]
      simp only [if_true, wrongIf_zero]
      by_cases h6 : d.kind = 6
      · simp [h6, hl3]
      · simp only [h6, if_false]
        by_cases ht : d.hi < d.lo ∨ 7 < d.hi
        · simp only [ht, if_true]
          simp [Ck.wrong, Ck.wrongIf]
          all_goals ((repeat' split) <;> simp_all)
        · simp only [ht, if_false]
          by_cases h2 : setE ahead 2 d.label = 0
          · rw [h2]
            simp only [if_true, wrongIf_zero]
            by_cases h3 : whereE ahead d.place = 0
            · rw [h3]
              simp only [if_true, wrongIf_zero]
              by_cases hb : 32 < boxes + ((whereB ahead d.place).length : Int)
              · simp only [hb, if_true]
                simp [Ck.wrong]
                all_goals ((repeat' split) <;> simp_all)
              · simp only [hb, if_false]
                by_cases hz : 16 < d.zoom
                · simp [hz, Ck.wrong]
                · simp [hz, hl3]
            · simp only [h3, if_false]
              simp [Ck.wrong, Ck.wrongIf, h3]
              all_goals ((repeat' split) <;> simp_all)
          · simp only [h2, if_false]
            simp [Ck.wrong, Ck.wrongIf, h2]
            all_goals ((repeat' split) <;> simp_all)
    · simp only [h1, if_false]
      simp [Ck.wrong, Ck.wrongIf, h1]
      all_goals ((repeat' split) <;> simp_all)

theorem rbad_eq {d : Decl} (hm : may d = true) (hk : d.kind ≤ 3) : rbad d = if d.kind = 3 then !boxesR d.boxes else decide (7 < d.n) := by
  unfold rbad boxesR
  rw [foldl_or]
  have := may_kind hm
  by_cases h3 : d.kind = 3
  · rw [if_pos h3]; simp [h3]
  · rw [if_neg h3, may_boxes hm h3]
    have : d.kind < 3 := by omega
    simp [this]

theorem ckRun_eq (l : List Decl) : ∀ (a : List Decl) (c : Ck), (∀ d ∈ l, may d = true) → c.f = (0, 0, 0) → c.rules.length ≤ 32 → rrun a l c.rules c.boxes = ckRun a l c := by
  induction l with
  | nil => intro a c _ _ _; rfl
  | cons d l ih =>
    intro a c hm h0 hn
    have hd := hm d List.mem_cons_self
    have hk := may_kind hd
    have hm' : ∀ d ∈ l, may d = true := fun x hx => hm x (List.mem_cons_of_mem _ hx)
    unfold rrun ckRun
    by_cases h3 : 3 < d.kind
    · rw [if_pos h3]
      have he : ckDecl a c d = ckRule a c d := by unfold ckDecl; rw [if_neg (by omega), if_neg (by omega)]
      rw [he]
      have hr := ckRule_eq a c d h0 hn
      revert hr
      cases rrule a d c.rules.length c.boxes with
      | error f => intro hr; simp only at hr ⊢; rw [if_neg (by rw [hr.1]; exact hr.2), hr.1]
      | ok x =>
        intro hr
        simp only at hr ⊢
        rw [hr.1, if_pos rfl]
        have := hr.2
        exact ih _ ⟨c.rules ++ [x], _, _⟩ hm' rfl (by simp only [List.length_append, List.length_cons, List.length_nil]; omega)
    · rw [if_neg h3, rbad_eq hd (by omega)]
      have hz : c.f.1 = 0 := by rw [h0]
      by_cases hk3 : d.kind = 3
      · have he : ckDecl a c d = ckRegion a c d := by unfold ckDecl; rw [if_neg (by omega), if_pos hk3]
        rw [he, if_pos hk3]
        unfold ckRegion
        rw [hk3]
        cases (declared a 3 d.name).isSome with
        | true => simp [wrong_f hz]
        | false =>
          cases hb : boxesR d.boxes with
          | true => simp [hz]; exact ih _ c hm' h0 hn
          | false => simp [wrong_f hz]
      · have he : ckDecl a c d = ckNumber a c d := by unfold ckDecl; rw [if_pos (by omega)]
        rw [he, if_neg hk3]
        unfold ckNumber
        cases (declared a d.kind d.name).isSome with
        | true => simp [wrong_f hz]
        | false =>
          by_cases h7 : 7 < d.n
          · simp [h7, wrong_f hz]
          · simp [h7, hz]; exact ih _ c hm' h0 hn

theorem rcheck_eq (l : List Decl) : rcheckV l = checkV l := by
  unfold rcheckV checkV
  have e : l.all rRight = l.all may := by congr 1; funext d; exact may_eq d
  rw [e]
  cases h : l.all may with
  | false => rfl
  | true =>
    simp only [if_true]
    exact ckRun_eq l [] ⟨[], 0, (0, 0, 0)⟩ (fun d hd => List.all_eq_true.1 h d hd) rfl (by simp)

end Go.Proofs.YtnoieobjfihbeaaDoor.Ru

namespace Go.Proofs.YtnoieobjfihbeaaDoor
open Go.RowKit Go.Sort

set_option maxHeartbeats 1000000 in
theorem rtext_i {n : Int} (h0 : 0 ≤ n) (h1 : n ≤ 65535) (w : World) : Calls Tryd.prog 34 #[.int .i64 n] w fun e w' => e = .returned (.string ⟨(Go.Lib.itoa n).toArray⟩) ∧ Below w.heap.size w w' := by
  obtain ⟨k, rfl⟩ : ∃ k : Nat, n = k := ⟨n.toNat, by omega⟩
  rw [Go.Lib.itoa_nonneg]
  have q : IntKind.u64.wrap (k : Int) = (k : Int) := by rw [IntKind.wrap_u64]; omega
  have hr := hid (rtext_u k (by omega))
  go_enter Tryd.func34, Tryd.ntmps34
  go_wp2_with fail
  refine (hr.out _).mono ?_
  rintro e w1 ⟨rfl, hb⟩
  have Q := hid hb
  clear hb
  go_wp2_with fail
  go_ret
  exact ⟨rfl, Q.out⟩
theorem num_bounds {n : Int} (h : Ru.num n = true) : 0 ≤ n ∧ n ≤ 65535 := by
  unfold Ru.num at h
  simpa using h
set_option maxHeartbeats 1000000 in
theorem rwho_text {x : Po.Who} (hx : Ru.rightW x = true) (all : ByteArray) (w : World) :
    Calls Tryd.prog 35 #[.agg (whoArr x), .string all] w fun e w' => e = .returned (.string ⟨(Pt.whoB all.data.toList x).toArray⟩) ∧ Below w.heap.size w w' := by
  obtain ⟨any, name, n, line, col⟩ := x
  have Q0 := hid (balloc w (.cells (whoArr ⟨any, name, n, line, col⟩) 42))
  have B0 := hid (Blk.new w (whoArr ⟨any, name, n, line, col⟩) 42)
  unfold whoArr at *
  simp only at Q0 B0 ⊢
  cases any with
  | true =>
    have c0 := B0.out.cell 0 (v := .bool true) rfl
    go_enter Tryd.func35, Tryd.ntmps35
    go_wp2_with fail
    go_ret
    exact ⟨rfl, Q0.out⟩
  | false =>
    have c0 := B0.out.cell 0 (v := .bool false) rfl
    have c1 := B0.out.cell 1 (v := .string name) rfl
    have c2 := B0.out.cell 2 (v := .int .i64 n) rfl
    by_cases hn : name.data.toList = []
    · have hn2 : name = ⟨#[]⟩ := by
        apply ByteArray.ext
        exact Array.toList_inj.1 hn
      subst hn2
      have hb : Ru.num n = true := by
        unfold Ru.rightW at hx
        simpa using hx
      obtain ⟨h0, h1⟩ := num_bounds hb
      have hr := hid (rtext_i h0 h1)
      clear hx hb h0 h1 hn
      go_enter Tryd.func35, Tryd.ntmps35
      go_wp2_with fail
      refine (hr.out _).mono ?_
      rintro e w1 ⟨rfl, hb⟩
      have Q := hid (bthen Q0.out hb)
      clear hb
      go_wp2_with fail
      go_ret
      exact ⟨rfl, Q.out⟩
    · have hem' : ¬ name.toList = [] := by rw [ByteArray.toList_eq]; exact hn
      have hem2 : (name.toList == []) = false := beq_eq_false_iff_ne.2 hem'
      clear hx
      go_enter Tryd.func35, Tryd.ntmps35
      go_wp2_with fail
      go_ret
      refine ⟨?_, Q0.out⟩
      unfold Pt.whoB
      simp only [Bool.false_eq_true, if_false, if_neg hn]
      rfl

end Go.Proofs.YtnoieobjfihbeaaDoor
