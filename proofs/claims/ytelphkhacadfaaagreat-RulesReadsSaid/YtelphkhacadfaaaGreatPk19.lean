/-
  The walk of rules.Read.
  The walk of the laws' known: what must come of fixed calls.
  Rows of rules as pairs of a rule and its boxes' slice.
  The document's own Check: small laws, and two regions' code.
-/
import Derived.Test.YtelphkhacadfaaaGreatPk18
import Derived.Test.YtelphkhacadfaaaGreatPk10
import Derived.Test.YtelphkhacadfaaaGreatPk07
import Derived.Deep.Slices
import Derived.Test.YtelphkhacadfaaaGreatPk17

namespace Go.Proofs.YtelphkhacadfaaaGreat
open Go.RowKit Go.Sort Go.Maps

def ReadPost (B : Nat) (L : Lx.Bytes) (e : Ending) (w' : World) : Prop :=
  match Po.parse L with
  | .ok ds => CheckPost B ds e w'
  | .error (er, l, c) => e = .returned (.tuple #[.slice none 0 0, .agg #[.int .i64 er, .int .i64 l, .int .i64 c]]) ∧ er ≠ 0
set_option maxRecDepth 100000 in
set_option maxHeartbeats 4000000 in
theorem read_any (s : ByteArray) (w : World) (hs : s.size ≤ 140737488355328) :
    Calls Tryz.prog 4 #[.string s] w fun e w' => ReadPost w.heap.size s.data.toList e w' ∧ Below w.heap.size w w' := by
  have hn1 := Nat.le_refl w.heap.size
  have hpa := parse_any s (w.alloc (.cells #[.int .i64 0, .int .i64 0, .int .i64 0] 27)) hs
  unfold ParsePost at hpa
  have hz1 := balloc w (.cells #[.int .i64 0, .int .i64 0, .int .i64 0] 27)
  have Q0 := hid hz1
  have B0 := hid (Blk.new w #[.int .i64 0, .int .i64 0, .int .i64 0] 27)
  clear hz1
  cases hp : Po.parse s.data.toList with
  | error f =>
    obtain ⟨er, l, c⟩ := f
    rw [hp] at hpa
    have hpa' := hid hpa
    have hp' := hid hp
    clear hpa hp
    go_enter Tryz.func4, Tryz.ntmps4
    go_wp2_with fail
    refine hpa'.out.mono ?_
    rintro e w1 ⟨⟨rfl, her⟩, hb1⟩
    have hsz := hb1.size
    simp only [World.size_alloc] at hsz
    have Q1 := hid (bthen Q0.out hb1)
    have B1 := hid (B0.out.ext hb1)
    have hne : w.heap.size ≠ w1.heap.size := by omega
    have hne' : w1.heap.size ≠ w.heap.size := by omega
    have hn2 : w.heap.size ≤ w1.heap.size := by omega
    have C1 := hid (Blk.new w1 #[.int .i64 er, .int .i64 l, .int .i64 c] 27)
    have B2 := hid (B1.out.ext (balloc w1 (.cells #[.int .i64 er, .int .i64 l, .int .i64 c] 27)))
    have Q2 := hid (bthen Q1.out (balloc w1 (.cells #[.int .i64 er, .int .i64 l, .int .i64 c] 27)))
    obtain ⟨d0, d1, d2, df, dz⟩ := B2.out.three
    have h0 : ((er : Int) != 0) = true := by rw [bne_iff_ne]; omega
    go_wp2_with fail
    go_region_held3 (fun w' => w'.cell? ⟨w1.heap.size, 0, none⟩ = some (.int .i64 er) ∧ w'.cell? ⟨w1.heap.size, 1, none⟩ = some (.int .i64 l) ∧ w'.cell? ⟨w1.heap.size, 1 + 1, none⟩ = some (.int .i64 c)) (go_keep) (first | fail)
    go_wp2_with fail
    refine bodyPost_ret (v := .tuple #[.slice none 0 0, .agg #[.int .i64 er, .int .i64 l, .int .i64 c]]) (by simp [results, Tryz.results4, go_sem, d0, d1, d2]) rfl ⟨?_, (by simp only [below_setNew_iff hn1, below_drew_iff]; exact Q2.out)⟩
    unfold ReadPost
    rw [hp'.out]
    exact ⟨rfl, her⟩
  | ok ds =>
    rw [hp] at hpa
    have hpa' := hid hpa
    have hp' := hid hp
    obtain ⟨hlen, hsm⟩ := Po.parse_small hp
    have hsm' := hid (fun d hd => DSmall.of (hsm d hd))
    clear hpa hp hsm
    go_enter Tryz.func4, Tryz.ntmps4
    go_wp2_with fail
    refine hpa'.out.mono ?_
    rintro e w1 ⟨⟨v, vs, rfl, hds⟩, hb1⟩
    have hsz := hb1.size
    simp only [World.size_alloc] at hsz
    have Q1 := hid (bthen Q0.out hb1)
    have B1 := hid (B0.out.ext hb1)
    have hne : w.heap.size ≠ w1.heap.size := by omega
    have hne' : w1.heap.size ≠ w.heap.size := by omega
    have B2 := hid (B1.out.ext (balloc w1 (.cells #[.int .i64 0, .int .i64 0, .int .i64 0] 27)))
    have Q2 := hid (bthen Q1.out (balloc w1 (.cells #[.int .i64 0, .int .i64 0, .int .i64 0] 27)))
    have D2 := hid (hds.sl.ext (balloc w1 (.cells #[.int .i64 0, .int .i64 0, .int .i64 0] 27)))
    clear hds hb1
    go_wp2_with fail
    have hck := check_any D2.out (by omega) hsm'.out
    unfold CheckPost at hck
    cases hc : Ru.checkV ds with
    | ok rs =>
      rw [hc] at hck
      refine hck.mono ?_
      rintro e w3 ⟨⟨v3, rfl, hr3, hl3⟩, hb3⟩
      have Q3 := hid (bthen Q2.out hb3)
      have B3 := hid (B2.out.ext hb3)
      have R3 := hid hr3
      obtain ⟨d0, d1, d2, df, dz⟩ := B3.out.three
      clear hr3 hb3 hck
      go_wp2_with fail
      refine bodyPost_ret (v := .tuple #[v3, .agg #[.int .i64 0, .int .i64 0, .int .i64 0]]) (by simp [results, Tryz.results4, go_sem, d0, d1, d2]) rfl ⟨?_, (by simp only [below_setNew_iff hn1]; exact Q3.out)⟩
      unfold ReadPost
      rw [hp'.out]
      simp only
      unfold CheckPost
      rw [hc]
      have ht := ((((Touch.refl w.heap.size w3).setCell 0 (.int .i64 0)).setCell 1 (.int .i64 0)).setCell (1 + 1) (.int .i64 0))
      exact ⟨v3, rfl, fun w'' ha => R3.out w'' (((Above.touch ht (Nat.le_refl _)).trans ha).mono (by rw [World.size_alloc]; omega)), hl3⟩
    | error f =>
      obtain ⟨er, l, c⟩ := f
      rw [hc] at hck
      refine hck.mono ?_
      rintro e w3 ⟨rfl, hb3⟩
      have Q3 := hid (bthen Q2.out hb3)
      have B3 := hid (B2.out.ext hb3)
      obtain ⟨d0, d1, d2, df, dz⟩ := B3.out.three
      clear hb3 hck
      go_wp2_with fail
      refine bodyPost_ret (v := .tuple #[.slice none 0 0, .agg #[.int .i64 er, .int .i64 l, .int .i64 c]]) (by simp [results, Tryz.results4, go_sem, d0, d1, d2]) rfl ⟨?_, (by simp only [below_setNew_iff hn1]; exact Q3.out)⟩
      unfold ReadPost
      rw [hp'.out]
      simp only
      unfold CheckPost
      rw [hc]

end Go.Proofs.YtelphkhacadfaaaGreat

namespace Go.Proofs.YtelphkhacadfaaaGreat
open Go.RowKit Go.Sort Go.Maps

def kRule : Ru.Rule := ⟨4, 8, 1, 4, 255, [⟨0, 0, 65535, 65535⟩], 12⟩
def kText : ByteArray := { data := ([114, 111, 108, 101, 32, 110, 117, 114, 115, 101, 32, 61, 32, 51, 59, 32, 97, 108, 108, 111, 119, 32, 114, 111, 108, 101, 32, 110, 117, 114, 115, 101, 32, 116].append [105, 101, 114, 32, 49, 46, 46, 52, 32, 108, 97, 98, 101, 108, 32, 97, 110, 121, 32, 105, 110, 32, 97, 108, 108, 32, 122, 111, 111, 109, 32, 49, 50, 59]).toArray }
def kDecls : List Po.Decl := match Po.parse kText.data.toList with | .ok ds => ds | .error _ => []
theorem kParse : Po.parse kText.data.toList = .ok kDecls := by
  have h : (match Po.parse kText.data.toList with | .ok _ => true | .error _ => false) = true := by decide +kernel
  unfold kDecls
  cases hp : Po.parse kText.data.toList with
  | ok ds => rfl
  | error f => rw [hp] at h; cases h
theorem kCheck : Ru.checkV kDecls = .ok [kRule] := by kernel_rfl
theorem kZoom1 : Ru.zoomV [kRule] 3 2 7 9 0 = 12 := by kernel_rfl
theorem kZoom2 : Ru.zoomV [kRule] 3 5 7 0 0 = 0 := by kernel_rfl

set_option maxRecDepth 100000 in
set_option maxHeartbeats 4000000 in
theorem known_any (w : World) : Calls Tryz.prog 6 #[] w fun e w' => e = .returned (.bool true) ∧ Below w.heap.size w w' := by
  have hr := read_any kText w (by decide)
  unfold ReadPost at hr
  rw [kParse] at hr
  simp only at hr
  unfold CheckPost at hr
  rw [kCheck] at hr
  simp only at hr
  have hr' := hid hr
  clear hr
  go_enter Tryz.func6, Tryz.ntmps6
  go_wp2_with fail
  refine hr'.out.mono ?_
  rintro e w1 ⟨⟨v, rfl, hrs, _⟩, hb1⟩
  have hz := balloc w1 (.cells #[.int .i64 0, .int .i64 0, .int .i64 0] 27)
  have R1 := hid (hrs _ (Above.below hz))
  have Q1 := hid (bthen hb1 hz)
  rcases R1.out with ⟨_, h0⟩ | ⟨g, off, cap, rfl, hg⟩
  · cases h0
  obtain ⟨x, hat, hrow, _⟩ := hg.get 0 (by decide)
  have q1 : (w1.alloc (.cells #[.int .i64 0, .int .i64 0, .int .i64 0] 27)).cell? ⟨g, off + 1, none⟩ = some (.int .i64 8) := hat 1 _ rfl
  have q4 : (w1.alloc (.cells #[.int .i64 0, .int .i64 0, .int .i64 0] 27)).cell? ⟨g, off + 4, none⟩ = some (.int .i64 255) := hat 4 _ rfl
  clear hat hrow hg hz hb1 hrs
  go_wp2_with fail
  refine (zoom_any 3 2 7 9 0 R1.out (by decide)).mono ?_
  rw [kZoom1]
  rintro e w3 ⟨rfl, hb3⟩
  have R3 := hid (R1.out.ext hb3)
  have Q3 := hid (bthen Q1.out hb3)
  clear hb3 q1 q4
  go_wp2_with fail
  refine (zoom_any 3 5 7 0 0 R3.out (by decide)).mono ?_
  rw [kZoom2]
  rintro e w4 ⟨rfl, hb4⟩
  have Q4 := hid (bthen Q3.out hb4)
  clear hb4
  go_wp2_with fail
  go_ret
  exact ⟨rfl, Q4.out⟩

end Go.Proofs.YtelphkhacadfaaaGreat

namespace Go.Proofs.YtelphkhacadfaaaGreat
open Go.RowKit Go.Sort Go.Maps

instance ruleInh0 : Inhabited Ru.Rule := ⟨⟨0, 0, 0, 0, 0, [], 0⟩⟩
abbrev RP := Ru.Rule × Value
def pairCells (ps : List RP) : List Value := ps.flatMap fun p => (ruleArr p.1 p.2).toList
/-- boxes that lie in memory -/
def PIn (w : World) (ps : List RP) : Prop := ∀ p ∈ ps, BRow w p.2 p.1.boxes ∧ p.1.boxes.length ≤ 140737488355328
theorem PIn.ext {w w' : World} {ps : List RP} (h : PIn w ps) (hb : Below w.heap.size w w') : PIn w' ps := fun p hp => ⟨(h p hp).1.ext hb, (h p hp).2⟩
structure PRow (w : World) (g off cap : Nat) (ps : List RP) : Prop where
  cap : ps.length ≤ cap
  lt : g < w.heap.size
  get : ∀ (i : Nat) (hi : i < ps.length), w.rangeAt g (off + i * 7) (ruleArr ps[i].1 ps[i].2).toList
theorem PRow.ext {w w' : World} {g off cap : Nat} {ps : List RP} (h : PRow w g off cap ps) (hb : Below w.heap.size w w') : PRow w' g off cap ps :=
  ⟨h.cap, Nat.lt_of_lt_of_le h.lt hb.size, fun i hi j u hu => (hb.cell (p := ⟨g, off + i * 7 + j, none⟩) h.lt).trans (h.get i hi j u hu)⟩
theorem RSl.pairs {w : World} {v : Value} {l : List Ru.Rule} (h : RSl w v l) : ∃ ps : List RP, l = ps.map (·.1) ∧ PIn w ps ∧ ((v = .slice none 0 0 ∧ ps = []) ∨ ∃ g off cap, v = .slice (some ⟨g, off, none⟩) ps.length cap ∧ PRow w g off cap ps) := by
  rcases h with ⟨rfl, rfl⟩ | ⟨g, off, cap, rfl, hr⟩
  · exact ⟨[], rfl, fun p hp => by simp at hp, .inl ⟨rfl, rfl⟩⟩
  · obtain ⟨f, hf⟩ := Go.Deep.choose_lt (α := Value) (n := l.length) (p := fun i x => ∀ hi : i < l.length, w.rangeAt g (off + i * 7) (ruleArr l[i] x).toList ∧ BRow w x l[i].boxes ∧ l[i].boxes.length ≤ 140737488355328) (fun i hi => by
      obtain ⟨x, h1, h2, h3⟩ := hr.get i hi
      exact ⟨x, fun _ => ⟨h1, h2, h3⟩⟩)
    refine ⟨(List.range l.length).map fun i => (l.getD i default, f i), ?_, ?_, .inr ⟨g, off, cap, by simp, by simpa using hr.cap, hr.lt, fun i hi => ?_⟩⟩
    · apply List.ext_getElem
      · simp
      · intro i h1 h2
        simp [List.getD, List.getElem?_eq_getElem h1]
    · intro p hp
      obtain ⟨i, hi, rfl⟩ := List.mem_map.1 hp
      have hi' := List.mem_range.1 hi
      obtain ⟨_, h2, h3⟩ := hf i hi' hi'
      simp only [List.getD, List.getElem?_eq_getElem hi', Option.getD_some]
      exact ⟨h2, h3⟩
    · have hi' : i < l.length := by simpa using hi
      obtain ⟨h1, _, _⟩ := hf i hi' hi'
      simp only [List.getElem_map, List.getElem_range, List.getD, List.getElem?_eq_getElem hi', Option.getD_some]
      exact h1
theorem RSl.of_own {w : World} {base n : Nat} {u : Value} {ps : List RP} (h : w.ownsRow base 52 7 u n (pairCells ps)) (hn : n = ps.length) (hp : PIn w ps) : RSl w u (ps.map (·.1)) := by
  subst hn
  rcases srow_of (f := fun p : RP => ruleArr p.1 p.2) (fun _ _ => rfl) (show Row w u ps.length 7 (ps.flatMap fun p => (ruleArr p.1 p.2).toList) from Row.of_owns h) with ⟨hv, h0⟩ | ⟨g, off, cap, hv, hs⟩
  · exact .inl ⟨hv, by rw [h0]; rfl⟩
  · refine .inr ⟨g, off, cap, by rw [List.length_map]; exact hv, by rw [List.length_map]; exact hs.cap, hs.lt, fun i hi => ?_⟩
    have hi' : i < ps.length := by simpa using hi
    have h1 := hs.get i hi'
    obtain ⟨h2, h3⟩ := hp _ (List.getElem_mem hi')
    simp only [List.getElem_map]
    exact ⟨_, h1, h2, h3⟩
theorem pairCells_snoc (ps : List RP) (p : RP) : pairCells (ps ++ [p]) = pairCells ps ++ (ruleArr p.1 p.2).toList := by unfold pairCells; simp
theorem ownBlock_none : (Value.slice none 0 0).ownBlock = none := rfl

def lwArr (role tier label x y : Int) : Array Value := #[.int .i64 role, .int .i64 tier, .int .i64 label, .int .i64 x, .int .i64 y]

end Go.Proofs.YtelphkhacadfaaaGreat

namespace Go.Proofs.YtelphkhacadfaaaGreat
open Go.RowKit Go.Sort

theorem Blk.rng {w : World} {b : Nat} {cs : Array Value} {t : TypeId} (h : Blk w b cs t) : w.rangeAt b 0 cs.toList := by
  have := World.rangeAt_of_block h 0 cs.size
  rwa [Nat.zero_add, Array.extract_size] at this
theorem BRow.setRowOther {w : World} {v : Value} {l : List Po.Box} {k : Nat} (h : BRow w v l) (hne : l = [] ∨ v.ownBlock ≠ some k) (cs : Array Value) : BRow (w.setRow k cs) v l := by
  rcases hne with rfl | hne
  · obtain ⟨p, c, rfl⟩ := h.shape
    exact .inl ⟨p, c, rfl, rfl⟩
  · exact h.touch ((Touch.refl k w).setRow cs) hne
/-- a region of a function's code, by its number -/
def regionOf (n : Nat) : Code → Option Code
  | .region k ops d => if k = n then some (.region k ops d) else none
  | .seq a b => match regionOf n a with | some c => some c | none => regionOf n b
  | .cond _ a b => match regionOf n a with | some c => some c | none => regionOf n b
  | .block _ c => regionOf n c
  | .loop c => regionOf n c
  | .scope c => regionOf n c
  | _ => none
noncomputable def check13 : Code := (Tryz.f7.body.bind (regionOf 13)).getD .skip
noncomputable def check18 : Code := (Tryz.f7.body.bind (regionOf 18)).getD .skip

theorem rrule_ne {a : List Po.Decl} {d : Po.Decl} {n b er l c : Int} (h : Ru.rrule a d n b = .error (er, l, c)) : er ≠ 0 := by
  unfold Ru.rrule at h
  repeat' split at h
  all_goals first
    | (cases h; done)
    | (cases h; decide)
    | (rename_i hs; cases h; exact rsum_ne hs)
    | skip
  all_goals
    rename_i hs
    cases h
    unfold Ru.rwhere at hs
    repeat' split at hs
    all_goals cases hs
    all_goals decide
theorem szSet (w : World) (a : Addr) (u : Value) : (w.setCell a u).heap.size = w.heap.size := by simp [World.setCell]
theorem szDrew (w : World) : w.drew.heap.size = w.heap.size := rfl
/-- what a region that draws reads of a declaration -/
theorem dS {W : World} {b : Nat} {d : Po.Decl} {xp : Option Addr} {xc : Nat} {t : TypeId} (h : Blk W b (declCells d (.slice xp d.boxes.length xc)) t) :
    W.cell? ⟨b, 0, none⟩ = some (.int .i64 d.kind) ∧ W.cell? ⟨b, 1, none⟩ = some (.string d.name) ∧ W.cell? ⟨b, 1 + 1, none⟩ = some (.int .i64 d.n) ∧ W.cell? ⟨b, 1 + 1 + 1, none⟩ = some (.slice xp d.boxes.length xc) ∧ W.cell? ⟨b, 1 + 1 + 1 + 1, none⟩ = some (.bool d.role.any) ∧ W.cell? ⟨b, 1 + 1 + 1 + 1 + 1, none⟩ = some (.string d.role.name) ∧ W.cell? ⟨b, 1 + 1 + 1 + 1 + 1 + 1, none⟩ = some (.int .i64 d.role.n) ∧ W.cell? ⟨b, 1 + 1 + 1 + 1 + 1 + 1 + 1, none⟩ = some (.int .i64 d.role.line) ∧ W.cell? ⟨b, 1 + 1 + 1 + 1 + 1 + 1 + 1 + 1, none⟩ = some (.int .i64 d.role.col) ∧ W.cell? ⟨b, 1 + 1 + 1 + 1 + 1 + 1 + 1 + 1 + 1, none⟩ = some (.int .i64 d.lo) ∧ W.cell? ⟨b, 1 + 1 + 1 + 1 + 1 + 1 + 1 + 1 + 1 + 1, none⟩ = some (.int .i64 d.hi) ∧ W.cell? ⟨b, 1 + 1 + 1 + 1 + 1 + 1 + 1 + 1 + 1 + 1 + 1, none⟩ = some (.bool d.label.any) ∧ W.cell? ⟨b, 1 + 1 + 1 + 1 + 1 + 1 + 1 + 1 + 1 + 1 + 1 + 1, none⟩ = some (.string d.label.name) ∧ W.cell? ⟨b, 1 + 1 + 1 + 1 + 1 + 1 + 1 + 1 + 1 + 1 + 1 + 1 + 1, none⟩ = some (.int .i64 d.label.n) ∧ W.cell? ⟨b, 1 + 1 + 1 + 1 + 1 + 1 + 1 + 1 + 1 + 1 + 1 + 1 + 1 + 1, none⟩ = some (.int .i64 d.label.line) ∧ W.cell? ⟨b, 1 + 1 + 1 + 1 + 1 + 1 + 1 + 1 + 1 + 1 + 1 + 1 + 1 + 1 + 1, none⟩ = some (.int .i64 d.label.col) ∧ W.cell? ⟨b, 1 + 1 + 1 + 1 + 1 + 1 + 1 + 1 + 1 + 1 + 1 + 1 + 1 + 1 + 1 + 1, none⟩ = some (.bool d.place.any) ∧ W.cell? ⟨b, 1 + 1 + 1 + 1 + 1 + 1 + 1 + 1 + 1 + 1 + 1 + 1 + 1 + 1 + 1 + 1 + 1, none⟩ = some (.string d.place.name) ∧ W.cell? ⟨b, 1 + 1 + 1 + 1 + 1 + 1 + 1 + 1 + 1 + 1 + 1 + 1 + 1 + 1 + 1 + 1 + 1 + 1, none⟩ = some (.int .i64 d.place.n) ∧ W.cell? ⟨b, 1 + 1 + 1 + 1 + 1 + 1 + 1 + 1 + 1 + 1 + 1 + 1 + 1 + 1 + 1 + 1 + 1 + 1 + 1, none⟩ = some (.int .i64 d.place.line) ∧ W.cell? ⟨b, 1 + 1 + 1 + 1 + 1 + 1 + 1 + 1 + 1 + 1 + 1 + 1 + 1 + 1 + 1 + 1 + 1 + 1 + 1 + 1, none⟩ = some (.int .i64 d.place.col) ∧ W.cell? ⟨b, 1 + 1 + 1 + 1 + 1 + 1 + 1 + 1 + 1 + 1 + 1 + 1 + 1 + 1 + 1 + 1 + 1 + 1 + 1 + 1 + 1, none⟩ = some (.int .i64 d.zoom) ∧ W.cell? ⟨b, 1 + 1 + 1 + 1 + 1 + 1 + 1 + 1 + 1 + 1 + 1 + 1 + 1 + 1 + 1 + 1 + 1 + 1 + 1 + 1 + 1 + 1, none⟩ = some (.int .i64 d.line) ∧ W.cell? ⟨b, 1 + 1 + 1 + 1 + 1 + 1 + 1 + 1 + 1 + 1 + 1 + 1 + 1 + 1 + 1 + 1 + 1 + 1 + 1 + 1 + 1 + 1 + 1, none⟩ = some (.int .i64 d.col) :=
  ⟨h.cell 0 rfl, h.cell 1 rfl, h.cell 2 rfl, h.cell 3 rfl, h.cell 4 rfl, h.cell 5 rfl, h.cell 6 rfl, h.cell 7 rfl, h.cell 8 rfl, h.cell 9 rfl, h.cell 10 rfl, h.cell 11 rfl, h.cell 12 rfl, h.cell 13 rfl, h.cell 14 rfl, h.cell 15 rfl, h.cell 16 rfl, h.cell 17 rfl, h.cell 18 rfl, h.cell 19 rfl, h.cell 20 rfl, h.cell 21 rfl, h.cell 22 rfl, h.cell 23 rfl⟩
theorem kS {W : World} {b : Nat} {d : Po.Decl} {v : Value} {t : TypeId} (h : Blk W b (declCells d v) t) : W.cell? ⟨b, 0, none⟩ = some (.int .i64 d.kind) ∧ W.cell? ⟨b, 1, none⟩ = some (.string d.name) := ⟨h.cell 0 rfl, h.cell 1 rfl⟩
theorem BRow.grownOwn {w w' : World} {v : Value} {l : List Po.Box} {row : Option Nat} (h : BRow w v l) (hg : w.grownBy w' row) (hn : l = [] ∨ ∀ k, v.ownBlock = some k → row ≠ some k) : BRow w' v l := by
  rcases hn with rfl | hn
  · obtain ⟨p, c, rfl⟩ := h.shape
    exact .inl ⟨p, c, rfl, rfl⟩
  · refine h.imp id fun r => r.same hg.size (fun b hb => hg.block b (r.own_lt hb) (fun e => hn b hb e.symm))
/-- boxes that lie in memory, none in the row of the rules -/
def POwn (B : Nat) (w : World) (v : Value) (ps : List RP) : Prop := ∀ p ∈ ps, BRow w p.2 p.1.boxes ∧ p.1.boxes.length ≤ 140737488355328 ∧ (p.1.boxes = [] ∨ ∀ k, p.2.ownBlock = some k → v.ownBlock ≠ some k ∧ k ≠ B)
theorem POwn.ext {B : Nat} {w w' : World} {v : Value} {ps : List RP} (h : POwn B w v ps) (hb : Below w.heap.size w w') : POwn B w' v ps := fun p hp => ⟨(h p hp).1.ext hb, (h p hp).2⟩
theorem POwn.alloc {B : Nat} {w : World} {v : Value} {ps : List RP} (h : POwn B w v ps) (o : Obj) : POwn B (w.alloc o) v ps := h.ext (balloc w o)
theorem POwn.pin {B : Nat} {w w' : World} {v : Value} {ps : List RP} (h : POwn B w v ps) (ht : Touch B w w') : PIn w' ps := fun p hp => by
  obtain ⟨h1, h2, h3⟩ := h p hp
  refine ⟨?_, h2⟩
  rcases h3 with h3 | h3
  · obtain ⟨q, c, hv⟩ := h1.shape
    rw [h3] at hv ⊢
    exact .inl ⟨q, c, hv, rfl⟩
  · exact h1.touch ht (fun e => (h3 B e).2 rfl)
theorem POwn.snoc {w w6 : World} {v v6 x : Value} {ps : List RP} {r : Ru.Rule} {B0 B1 : Nat} (h : POwn B0 w v ps) (hB : B0 < B1) (hx : BRow w x r.boxes) (hn : r.boxes.length ≤ 140737488355328) (ho : BoxOwn x r.boxes B0 B1) (hv : ∀ k, v.ownBlock = some k → B0 < k ∧ k < B1) (hg : w.grownBy w6 v.ownBlock) (hat : v6.ownBlock = v.ownBlock ∨ v6.ownBlock = some w.heap.size) :
    POwn B0 w6 v6 (ps ++ [(r, x)]) := by
  have hx2 : r.boxes = [] ∨ ∀ k, x.ownBlock = some k → v.ownBlock ≠ some k ∧ k ≠ B0 := ho.imp id fun h k e => ⟨fun e2 => by have := h k e; have := hv k e2; omega, by have := h k e; omega⟩
  have key : ∀ (l : List Po.Box) (y : Value), BRow w y l → (l = [] ∨ ∀ k, y.ownBlock = some k → v.ownBlock ≠ some k ∧ k ≠ B0) → BRow w6 y l ∧ (l = [] ∨ ∀ k, y.ownBlock = some k → v6.ownBlock ≠ some k ∧ k ≠ B0) := by
    intro l y hy hne
    refine ⟨hy.grownOwn hg (hne.imp id fun h k e => (h k e).1), ?_⟩
    rcases hy with ⟨_, _, _, h0⟩ | hr
    · exact .inl h0
    · refine hne.imp id fun h k e => ⟨fun e6 => ?_, (h k e).2⟩
      rcases hat with ha | ha
      · exact (h k e).1 (ha ▸ e6)
      · rw [ha] at e6
        cases e6
        have := hr.own_lt e
        omega
  intro p hp
  rcases List.mem_append.1 hp with hp | hp
  · obtain ⟨h1, h2, h3⟩ := h p hp
    obtain ⟨k1, k2⟩ := key _ _ h1 h3
    exact ⟨k1, h2, k2⟩
  · rw [List.mem_singleton.1 hp]
    obtain ⟨k1, k2⟩ := key _ _ hx hx2
    exact ⟨k1, hn, k2⟩
theorem rrule_ok {a : List Po.Decl} {d : Po.Decl} {n b : Int} {r : Ru.Rule} (h : Ru.rrule a d n b = .ok r) (hb : b ≤ 32) : b + r.boxes.length ≤ 32 ∧ n < 32 := by
  unfold Ru.rrule at h
  repeat' split at h
  all_goals first
    | (cases h; done)
    | (cases h; refine ⟨?_, by omega⟩; first | (simp; omega) | (simp only; omega))
theorem BRow.setOther {w : World} {v : Value} {l : List Po.Box} {k : Nat} (h : BRow w v l) (hne : l = [] ∨ v.ownBlock ≠ some k) (o : Nat) (u : Value) : BRow (w.setCell ⟨k, o, none⟩ u) v l := by
  rcases hne with rfl | hne
  · obtain ⟨p, c, rfl⟩ := h.shape
    exact .inl ⟨p, c, rfl, rfl⟩
  · exact h.touch ((Touch.refl k w).setCell o u) hne
theorem box_sets7 {w : World} {v : Value} {l : List Po.Box} {k : Nat} (h : BRow w v l) (hne : l = [] ∨ v.ownBlock ≠ some k) (a0 a1 a2 a3 a4 a5 a6 : Value) : BRow (((((((w.setCell ⟨k, 0, none⟩ (a0)).setCell ⟨k, 1, none⟩ (a1)).setCell ⟨k, 2, none⟩ (a2)).setCell ⟨k, 3, none⟩ (a3)).setCell ⟨k, 4, none⟩ (a4)).setCell ⟨k, 5, none⟩ (a5)).setCell ⟨k, 6, none⟩ (a6)) v l :=
  ((((((h.setOther hne 0 a0).setOther hne 1 a1).setOther hne 2 a2).setOther hne 3 a3).setOther hne 4 a4).setOther hne 5 a5).setOther hne 6 a6
theorem box_sets3 {w : World} {v : Value} {l : List Po.Box} {k : Nat} (h : BRow w v l) (hne : l = [] ∨ v.ownBlock ≠ some k) (a0 a1 a2 : Value) : BRow (((w.setCell ⟨k, 0, none⟩ (a0)).setCell ⟨k, 1, none⟩ (a1)).setCell ⟨k, 2, none⟩ (a2)) v l :=
  ((h.setOther hne 0 a0).setOther hne 1 a1).setOther hne 2 a2
/-- what the document's Check returns -/
def RCheckPost (l : List Po.Decl) (w' : World) (e : Ending) : Prop :=
  match Ru.rcheckV l with
  | .ok rs => ∃ v, e = .returned (.tuple #[v, .agg #[.int .i64 0, .int .i64 0, .int .i64 0]]) ∧ RSl w' v rs ∧ rs.length ≤ 33
  | .error (er, x, y) => ∃ k, e = .returned (.tuple #[.slice (some ⟨k, 0, none⟩) 0 0, .agg #[.int .i64 er, .int .i64 x, .int .i64 y]]) ∧ k < w'.heap.size
theorem DRow.take {w : World} {g off cap : Nat} {ds : List Po.Decl} (h : DRow w g off cap ds) (i : Nat) : DRow w g off cap (ds.take i) :=
  ⟨by have := h.cap; rw [List.length_take]; omega, h.lt, fun j hj => by
    have hj2 : j < ds.length := by rw [List.length_take] at hj; omega
    obtain ⟨x, h1, h2⟩ := h.get j hj2
    rw [List.getElem_take]
    exact ⟨x, h1, h2⟩⟩


end Go.Proofs.YtelphkhacadfaaaGreat
