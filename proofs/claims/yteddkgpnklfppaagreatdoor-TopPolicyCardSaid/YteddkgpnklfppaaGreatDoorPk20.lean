/-
  The walk of rules.Read.
  The walk of the laws' known: what must come of fixed calls.
  Rows of rules as pairs of a rule and its boxes' slice.
  The table of patches: its map; the walk of grant's patches.
  The walk of grant's patches.
  The walks of grant's table: made, right, Zoom.
-/
import Derived.Test.YteddkgpnklfppaaGreatDoorPk19
import Derived.Test.YteddkgpnklfppaaGreatDoorPk14
import Derived.Test.YteddkgpnklfppaaGreatDoorPk07
import Derived.Deep.Slices
import Derived.Test.YteddkgpnklfppaaGreatDoorPk11
import Derived.DeepKeys4
import Derived.Deep.RegionLaw

namespace Go.Proofs.YteddkgpnklfppaaGreatDoor
open Go.RowKit Go.Sort Go.Maps

def ReadPost (B : Nat) (L : Lx.Bytes) (e : Ending) (w' : World) : Prop :=
  match Po.parse L with
  | .ok ds => CheckPost B ds e w'
  | .error (er, l, c) => e = .returned (.tuple #[.slice none 0 0, .agg #[.int .i64 er, .int .i64 l, .int .i64 c]]) ∧ er ≠ 0
set_option maxRecDepth 100000 in
set_option maxHeartbeats 4000000 in
theorem read_any (s : ByteArray) (w : World) (hs : s.size ≤ 140737488355328) :
    Calls Tryz.prog 4 #[.string s] w fun e w' => ReadPost w.heap.size s.data.toList e w' ∧ Below w.heap.size w w' := by
  have hn1 := Nat.le_refl w.heap.size
  have hpa := parse_any s (w.alloc (.cells #[.int .i64 0, .int .i64 0, .int .i64 0] 33)) hs
  unfold ParsePost at hpa
  have hz1 := balloc w (.cells #[.int .i64 0, .int .i64 0, .int .i64 0] 33)
  have Q0 := hid hz1
  have B0 := hid (Blk.new w #[.int .i64 0, .int .i64 0, .int .i64 0] 33)
  clear hz1
  cases hp : Po.parse s.data.toList with
  | error f =>
    obtain ⟨er, l, c⟩ := f
    rw [hp] at hpa
    have hpa' := hid hpa
    have hp' := hid hp
    clear hpa hp
    go_enter Tryz.func4, Tryz.ntmps4
    go_wp2_with fail
    refine hpa'.out.mono ?_
    rintro e w1 ⟨⟨rfl, her⟩, hb1⟩
    have hsz := hb1.size
    simp only [World.size_alloc] at hsz
    have Q1 := hid (bthen Q0.out hb1)
    have B1 := hid (B0.out.ext hb1)
    have hne : w.heap.size ≠ w1.heap.size := by omega
    have hne' : w1.heap.size ≠ w.heap.size := by omega
    have hn2 : w.heap.size ≤ w1.heap.size := by omega
    have C1 := hid (Blk.new w1 #[.int .i64 er, .int .i64 l, .int .i64 c] 33)
    have B2 := hid (B1.out.ext (balloc w1 (.cells #[.int .i64 er, .int .i64 l, .int .i64 c] 33)))
    have Q2 := hid (bthen Q1.out (balloc w1 (.cells #[.int .i64 er, .int .i64 l, .int .i64 c] 33)))
    obtain ⟨d0, d1, d2, df, dz⟩ := B2.out.three
    have h0 : ((er : Int) != 0) = true := by rw [bne_iff_ne]; omega
    go_wp2_with fail
    go_region_held3 (fun w' => w'.cell? ⟨w1.heap.size, 0, none⟩ = some (.int .i64 er) ∧ w'.cell? ⟨w1.heap.size, 1, none⟩ = some (.int .i64 l) ∧ w'.cell? ⟨w1.heap.size, 1 + 1, none⟩ = some (.int .i64 c)) (go_keep) (first | fail)
    go_wp2_with fail
    refine bodyPost_ret (v := .tuple #[.slice none 0 0, .agg #[.int .i64 er, .int .i64 l, .int .i64 c]]) (by simp [results, Tryz.results4, go_sem, d0, d1, d2]) rfl ⟨?_, (by simp only [below_setNew_iff hn1, below_drew_iff]; exact Q2.out)⟩
    unfold ReadPost
    rw [hp'.out]
    exact ⟨rfl, her⟩
  | ok ds =>
    rw [hp] at hpa
    have hpa' := hid hpa
    have hp' := hid hp
    obtain ⟨hlen, hsm⟩ := Po.parse_small hp
    have hsm' := hid (fun d hd => DSmall.of (hsm d hd))
    clear hpa hp hsm
    go_enter Tryz.func4, Tryz.ntmps4
    go_wp2_with fail
    refine hpa'.out.mono ?_
    rintro e w1 ⟨⟨v, vs, rfl, hds⟩, hb1⟩
    have hsz := hb1.size
    simp only [World.size_alloc] at hsz
    have Q1 := hid (bthen Q0.out hb1)
    have B1 := hid (B0.out.ext hb1)
    have hne : w.heap.size ≠ w1.heap.size := by omega
    have hne' : w1.heap.size ≠ w.heap.size := by omega
    have B2 := hid (B1.out.ext (balloc w1 (.cells #[.int .i64 0, .int .i64 0, .int .i64 0] 33)))
    have Q2 := hid (bthen Q1.out (balloc w1 (.cells #[.int .i64 0, .int .i64 0, .int .i64 0] 33)))
    have D2 := hid (hds.sl.ext (balloc w1 (.cells #[.int .i64 0, .int .i64 0, .int .i64 0] 33)))
    clear hds hb1
    go_wp2_with fail
    have hck := check_any D2.out (by omega) hsm'.out
    unfold CheckPost at hck
    cases hc : Ru.checkV ds with
    | ok rs =>
      rw [hc] at hck
      refine hck.mono ?_
      rintro e w3 ⟨⟨v3, rfl, hr3, hl3⟩, hb3⟩
      have Q3 := hid (bthen Q2.out hb3)
      have B3 := hid (B2.out.ext hb3)
      have R3 := hid hr3
      obtain ⟨d0, d1, d2, df, dz⟩ := B3.out.three
      clear hr3 hb3 hck
      go_wp2_with fail
      refine bodyPost_ret (v := .tuple #[v3, .agg #[.int .i64 0, .int .i64 0, .int .i64 0]]) (by simp [results, Tryz.results4, go_sem, d0, d1, d2]) rfl ⟨?_, (by simp only [below_setNew_iff hn1]; exact Q3.out)⟩
      unfold ReadPost
      rw [hp'.out]
      simp only
      unfold CheckPost
      rw [hc]
      have ht := ((((Touch.refl w.heap.size w3).setCell 0 (.int .i64 0)).setCell 1 (.int .i64 0)).setCell (1 + 1) (.int .i64 0))
      exact ⟨v3, rfl, fun w'' ha => R3.out w'' (((Above.touch ht (Nat.le_refl _)).trans ha).mono (by rw [World.size_alloc]; omega)), hl3⟩
    | error f =>
      obtain ⟨er, l, c⟩ := f
      rw [hc] at hck
      refine hck.mono ?_
      rintro e w3 ⟨rfl, hb3⟩
      have Q3 := hid (bthen Q2.out hb3)
      have B3 := hid (B2.out.ext hb3)
      obtain ⟨d0, d1, d2, df, dz⟩ := B3.out.three
      clear hb3 hck
      go_wp2_with fail
      refine bodyPost_ret (v := .tuple #[.slice none 0 0, .agg #[.int .i64 er, .int .i64 l, .int .i64 c]]) (by simp [results, Tryz.results4, go_sem, d0, d1, d2]) rfl ⟨?_, (by simp only [below_setNew_iff hn1]; exact Q3.out)⟩
      unfold ReadPost
      rw [hp'.out]
      simp only
      unfold CheckPost
      rw [hc]

end Go.Proofs.YteddkgpnklfppaaGreatDoor

namespace Go.Proofs.YteddkgpnklfppaaGreatDoor
open Go.RowKit Go.Sort Go.Maps

def kRule : Ru.Rule := ⟨4, 8, 1, 4, 255, [⟨0, 0, 65535, 65535⟩], 12⟩
def kText : ByteArray := { data := ([114, 111, 108, 101, 32, 110, 117, 114, 115, 101, 32, 61, 32, 51, 59, 32, 97, 108, 108, 111, 119, 32, 114, 111, 108, 101, 32, 110, 117, 114, 115, 101, 32, 116].append [105, 101, 114, 32, 49, 46, 46, 52, 32, 108, 97, 98, 101, 108, 32, 97, 110, 121, 32, 105, 110, 32, 97, 108, 108, 32, 122, 111, 111, 109, 32, 49, 50, 59]).toArray }
def kDecls : List Po.Decl := match Po.parse kText.data.toList with | .ok ds => ds | .error _ => []
theorem kParse : Po.parse kText.data.toList = .ok kDecls := by
  have h : (match Po.parse kText.data.toList with | .ok _ => true | .error _ => false) = true := by decide +kernel
  unfold kDecls
  cases hp : Po.parse kText.data.toList with
  | ok ds => rfl
  | error f => rw [hp] at h; cases h
theorem kCheck : Ru.checkV kDecls = .ok [kRule] := by kernel_rfl
theorem kZoom1 : Ru.zoomV [kRule] 3 2 7 9 0 = 12 := by kernel_rfl
theorem kZoom2 : Ru.zoomV [kRule] 3 5 7 0 0 = 0 := by kernel_rfl


end Go.Proofs.YteddkgpnklfppaaGreatDoor

namespace Go.Proofs.YteddkgpnklfppaaGreatDoor
open Go.RowKit Go.Sort Go.Maps

instance ruleInh0 : Inhabited Ru.Rule := ⟨⟨0, 0, 0, 0, 0, [], 0⟩⟩
abbrev RP := Ru.Rule × Value
def pairCells (ps : List RP) : List Value := ps.flatMap fun p => (ruleArr p.1 p.2).toList
/-- boxes that lie in memory -/
def PIn (w : World) (ps : List RP) : Prop := ∀ p ∈ ps, BRow w p.2 p.1.boxes ∧ p.1.boxes.length ≤ 140737488355328
theorem PIn.ext {w w' : World} {ps : List RP} (h : PIn w ps) (hb : Below w.heap.size w w') : PIn w' ps := fun p hp => ⟨(h p hp).1.ext hb, (h p hp).2⟩
structure PRow (w : World) (g off cap : Nat) (ps : List RP) : Prop where
  cap : ps.length ≤ cap
  lt : g < w.heap.size
  get : ∀ (i : Nat) (hi : i < ps.length), w.rangeAt g (off + i * 7) (ruleArr ps[i].1 ps[i].2).toList
theorem PRow.ext {w w' : World} {g off cap : Nat} {ps : List RP} (h : PRow w g off cap ps) (hb : Below w.heap.size w w') : PRow w' g off cap ps :=
  ⟨h.cap, Nat.lt_of_lt_of_le h.lt hb.size, fun i hi j u hu => (hb.cell (p := ⟨g, off + i * 7 + j, none⟩) h.lt).trans (h.get i hi j u hu)⟩
theorem RSl.pairs {w : World} {v : Value} {l : List Ru.Rule} (h : RSl w v l) : ∃ ps : List RP, l = ps.map (·.1) ∧ PIn w ps ∧ ((v = .slice none 0 0 ∧ ps = []) ∨ ∃ g off cap, v = .slice (some ⟨g, off, none⟩) ps.length cap ∧ PRow w g off cap ps) := by
  rcases h with ⟨rfl, rfl⟩ | ⟨g, off, cap, rfl, hr⟩
  · exact ⟨[], rfl, fun p hp => by simp at hp, .inl ⟨rfl, rfl⟩⟩
  · obtain ⟨f, hf⟩ := Go.Deep.choose_lt (α := Value) (n := l.length) (p := fun i x => ∀ hi : i < l.length, w.rangeAt g (off + i * 7) (ruleArr l[i] x).toList ∧ BRow w x l[i].boxes ∧ l[i].boxes.length ≤ 140737488355328) (fun i hi => by
      obtain ⟨x, h1, h2, h3⟩ := hr.get i hi
      exact ⟨x, fun _ => ⟨h1, h2, h3⟩⟩)
    refine ⟨(List.range l.length).map fun i => (l.getD i default, f i), ?_, ?_, .inr ⟨g, off, cap, by simp, by simpa using hr.cap, hr.lt, fun i hi => ?_⟩⟩
    · apply List.ext_getElem
      · simp
      · intro i h1 h2
        simp [List.getD, List.getElem?_eq_getElem h1]
    · intro p hp
      obtain ⟨i, hi, rfl⟩ := List.mem_map.1 hp
      have hi' := List.mem_range.1 hi
      obtain ⟨_, h2, h3⟩ := hf i hi' hi'
      simp only [List.getD, List.getElem?_eq_getElem hi', Option.getD_some]
      exact ⟨h2, h3⟩
    · have hi' : i < l.length := by simpa using hi
      obtain ⟨h1, _, _⟩ := hf i hi' hi'
      simp only [List.getElem_map, List.getElem_range, List.getD, List.getElem?_eq_getElem hi', Option.getD_some]
      exact h1
theorem RSl.of_own {w : World} {base n : Nat} {u : Value} {ps : List RP} (h : w.ownsRow base 56 7 u n (pairCells ps)) (hn : n = ps.length) (hp : PIn w ps) : RSl w u (ps.map (·.1)) := by
  subst hn
  rcases srow_of (f := fun p : RP => ruleArr p.1 p.2) (fun _ _ => rfl) (show Row w u ps.length 7 (ps.flatMap fun p => (ruleArr p.1 p.2).toList) from Row.of_owns h) with ⟨hv, h0⟩ | ⟨g, off, cap, hv, hs⟩
  · exact .inl ⟨hv, by rw [h0]; rfl⟩
  · refine .inr ⟨g, off, cap, by rw [List.length_map]; exact hv, by rw [List.length_map]; exact hs.cap, hs.lt, fun i hi => ?_⟩
    have hi' : i < ps.length := by simpa using hi
    have h1 := hs.get i hi'
    obtain ⟨h2, h3⟩ := hp _ (List.getElem_mem hi')
    simp only [List.getElem_map]
    exact ⟨_, h1, h2, h3⟩
theorem pairCells_snoc (ps : List RP) (p : RP) : pairCells (ps ++ [p]) = pairCells ps ++ (ruleArr p.1 p.2).toList := by unfold pairCells; simp
theorem ownBlock_none : (Value.slice none 0 0).ownBlock = none := rfl

def lwArr (role tier label x y : Int) : Array Value := #[.int .i64 role, .int .i64 tier, .int .i64 label, .int .i64 x, .int .i64 y]

end Go.Proofs.YteddkgpnklfppaaGreatDoor

namespace Go.Proofs.YteddkgpnklfppaaGreatDoor
open Go.RowKit Go.Sort Go.Maps

def keyV (a b c : Int) : Value := .agg #[.int .i64 a, .int .i64 b, .int .i64 c]
def keyL (a b c : Int) : Lit := .string (keyBytes [.int .i64 a, .int .i64 b, .int .i64 c])
theorem keyLaid : laidOutB Tryz.prog = true := by kernel_rfl
theorem law3 : Keyed Tryz.prog 108 :=
  Keyed.of_law (deep_law_laid keyLaid (m := 2) (by omega) (of_decide_eq_true (by kernel_rfl)) (by kernel_rfl) (by rw [Tryz.underlying108]))
theorem keyOf3 {a b c : Int} (h : Ru.numbers3 a b c = true) : keyOf Tryz.prog 108 (keyV a b c) = some (keyL a b c) := by
  obtain ⟨⟨a0, a1⟩, ⟨b0, b1⟩, ⟨c0, c1⟩⟩ := numbers3_iff.1 h
  obtain ⟨x, rfl⟩ : ∃ x : Nat, a = x := ⟨a.toNat, by omega⟩
  obtain ⟨y, rfl⟩ : ∃ y : Nat, b = y := ⟨b.toNat, by omega⟩
  obtain ⟨z, rfl⟩ : ∃ z : Nat, c = z := ⟨c.toNat, by omega⟩
  have w1 : (Lit.int .i64 (x : Int)).wf = true := WalkArith.wf_i64 (by omega)
  have w2 : (Lit.int .i64 (y : Int)).wf = true := WalkArith.wf_i64 (by omega)
  have w3 : (Lit.int .i64 (z : Int)).wf = true := WalkArith.wf_i64 (by omega)
  have hk : Tryz.prog.keyType 108 = true := by kernel_rfl
  have hc : Tryz.prog.cellsOf 108 = 3 := by kernel_rfl
  have hc1 : Tryz.prog.cellsOf 3 = 1 := by kernel_rfl
  have hs : Tryz.prog.types.size = (Tryz.prog.types.size - 1) + 1 := by kernel_rfl
  unfold keyV keyL keyOf
  rw [Tryz.underlying108]
  simp only
  rw [if_pos (by simp [hk, Value.formed, Tryz.underlying108, hc])]
  generalize Tryz.prog.types.size - 1 = m at hs
  rw [hs]
  unfold Program.keyLits
  simp only [Tryz.underlying108, Value.cells]
  rw [if_pos (by rw [hc]; rfl)]
  rw [hc1]
  simp [List.range, List.range.loop, Program.keyLits, Tryz.underlying3, w1, w2, w3]
theorem keyL_inj {a b c a' b' c' : Int} (h : Ru.numbers3 a b c = true) (h' : Ru.numbers3 a' b' c' = true) (e : keyL a b c = keyL a' b' c') : a = a' ∧ b = b' ∧ c = c' := by
  have h1 := keyOf3 h
  have h2 := keyOf3 h'
  rw [← e] at h2
  have h3 := law3.inj h1 h2
  unfold keyV at h3
  simpa using h3

/-- of the blocks from lo on, only block b of what was there may have changed -/
structure Tch (lo b : Nat) (w w' : World) : Prop where
  size : w.heap.size ≤ w'.heap.size
  block : ∀ k, lo ≤ k → k < w.heap.size → k ≠ b → w'.heap[k]? = w.heap[k]?
theorem Tch.of {lo b : Nat} {w w' : World} (h : Touch b w w') : Tch lo b w w' := ⟨h.size, fun k _ h1 h2 => h.block k h1 h2⟩
theorem Tch.trans {lo b : Nat} {x y z : World} (h : Tch lo b x y) (k : Tch lo b y z) : Tch lo b x z :=
  ⟨Nat.le_trans h.size k.size, fun i h0 h1 h2 => (k.block i h0 (Nat.lt_of_lt_of_le h1 h.size) h2).trans (h.block i h0 h1 h2)⟩
/-- a table: rules, and the patches that were reckoned -/
structure Tab (w : World) (lo tb mb : Nat) (rs : List Ru.Rule) (n : Nat) : Prop where
  ne : tb ≠ mb
  low : lo ≤ tb ∧ lo ≤ mb
  few : Few rs
  tv : ∃ tv, Blk w tb #[tv, .map (some mb)] 60 ∧ ∀ w', Tch lo mb w w' → RSl w' tv rs
  map : ∃ f, KMap Tryz.prog 108 w mb n f ∧ ∀ a b c v, Ru.numbers3 a b c = true → f (keyL a b c) = some v → v.ownBlock ≠ some mb ∧ (∀ q, v.ownBlock = some q → lo ≤ q) ∧ Row w v (Gr.patches rs a b c).length 5 (patchesC (Gr.patches rs a b c))
theorem Tab.lt {w : World} {lo tb mb : Nat} {rs : List Ru.Rule} {n : Nat} (h : Tab w lo tb mb rs n) : mb < w.heap.size := by obtain ⟨f, hf, _⟩ := h.map; exact hf.lt
theorem Tab.ext {w w' : World} {lo tb mb : Nat} {rs : List Ru.Rule} {n : Nat} (h : Tab w lo tb mb rs n) (hb : Below w.heap.size w w') : Tab w' lo tb mb rs n := by
  obtain ⟨tv, h1, h2⟩ := h.tv
  obtain ⟨f, h3, h4⟩ := h.map
  exact ⟨h.ne, h.low, h.few, ⟨tv, h1.ext hb, fun w'' ht => h2 w'' ((Tch.of (Touch.of_below hb)).trans ht)⟩, f, h3.ext hb, fun a b c v hn hv => ⟨(h4 a b c v hn hv).1, (h4 a b c v hn hv).2.1, (h4 a b c v hn hv).2.2.ext hb⟩⟩
theorem Tab.mono {w : World} {lo tb mb : Nat} {rs : List Ru.Rule} {n n' : Nat} (h : Tab w lo tb mb rs n) (hn : n ≤ n') : Tab w lo tb mb rs n' := by
  obtain ⟨f, h3, h4⟩ := h.map
  exact ⟨h.ne, h.low, h.few, h.tv, f, h3.mono hn, h4⟩
theorem Tab.put {w w2 : World} {lo tb mb : Nat} {rs : List Ru.Rule} {n : Nat} (h : Tab w lo tb mb rs n) (h1 : Touch mb w w2) {a b c : Int} (hk : Ru.numbers3 a b c = true) {v : Value} (hv : v.ownBlock ≠ some mb) (hlo : ∀ q, v.ownBlock = some q → lo ≤ q) (hr : Row w2 v (Gr.patches rs a b c).length 5 (patchesC (Gr.patches rs a b c)))
    {f : Lit → Option Value} (hf : ∀ a b c v, Ru.numbers3 a b c = true → f (keyL a b c) = some v → v.ownBlock ≠ some mb ∧ (∀ q, v.ownBlock = some q → lo ≤ q) ∧ Row w v (Gr.patches rs a b c).length 5 (patchesC (Gr.patches rs a b c)))
    (hm : ∀ f' : Lit → Option Value, f' (keyL a b c) = some v → (∀ l, WideAt.IsKeyLit l → l ≠ keyL a b c → f' l = f l) → KMap Tryz.prog 108 w2 mb (n + 1) f') : Tab w2 lo tb mb rs (n + 1) := by
  classical
  obtain ⟨tv, h2, h3⟩ := h.tv
  refine ⟨h.ne, h.low, h.few, ⟨tv, h2.touch h1 h.ne, fun w'' ht => h3 w'' ((Tch.of h1).trans ht)⟩, fun l => if l = keyL a b c then some v else f l, hm _ (if_pos rfl) (fun l _ hl => if_neg hl), fun a' b' c' v' hk' hv' => ?_⟩
  by_cases e : keyL a' b' c' = keyL a b c
  · obtain ⟨rfl, rfl, rfl⟩ := keyL_inj hk' hk e
    simp only [if_true] at hv'
    cases hv'
    exact ⟨hv, hlo, hr⟩
  · simp only [if_neg e] at hv'
    obtain ⟨h5, h7, h6⟩ := hf a' b' c' v' hk' hv'
    exact ⟨h5, h7, h6.touch h1 h5⟩

/-- a table while a block ahead of all its own is written -/
theorem Tab.other {w w' : World} {lo tb mb : Nat} {rs : List Ru.Rule} {n k : Nat} (h : Tab w lo tb mb rs n) (ht : Touch k w w') (hk : k < lo) : Tab w' lo tb mb rs n := by
  obtain ⟨tv, h1, h2⟩ := h.tv
  obtain ⟨f, h3, h4⟩ := h.map
  have hl := h.low
  exact ⟨h.ne, h.low, h.few, ⟨tv, h1.touch ht (by omega), fun w'' ht2 => h2 w'' ((⟨ht.size, fun i h0 hi _ => ht.block i hi (by omega)⟩ : Tch lo mb w w').trans ht2)⟩, f, h3.touch ht (by omega), fun a b c v hn hv => ⟨(h4 a b c v hn hv).1, (h4 a b c v hn hv).2.1, (h4 a b c v hn hv).2.2.touch ht (fun e => by have := (h4 a b c v hn hv).2.1 k e; omega)⟩⟩
/-- a store into a map, in a region that draws its order -/
theorem step_put {P : Program} {K : TypeId} {w : World} {b n : Nat} {f : Lit → Option Value} {ops : Array Oper} {o : Oper} {a : Act} {C : Act → World → Prop} {Q : Exit → Act → World → Prop} {E : Prop} (hg : o.guard = none) (m x v : Operand) (t : TypeId) (hop : o.op = Op.mapUpdate t m x v) (hd : o.dst = none)
    (e : TypeId) (Kd : Keyed P K) (ht : P.underlying t = some (.map K e)) (hm : a.eval m = .map (some b)) (h : KMap P K w b n f) (hn : n < maxLen) (key val : Value) (kl : Lit) (hx : a.eval x = key) (hv : a.eval v = val) (hkey : keyOf P K key = some kl) (hl : WideAt.IsKeyLit kl)
    (hK : ∀ w', (∀ f' : Lit → Option Value, f' kl = some val → (∀ l, WideAt.IsKeyLit l → l ≠ kl → f' l = f l) → KMap P K w' b (n + 1) f') → w.grownBy w' (some b) → C a w') :
    if Region.wanted o (yielded ops a.tmps) = true then Oper.wp P o a w C Q else E := by
  have hw : Region.wanted o (yielded ops a.tmps) = true := by simp [Region.wanted, hg]
  rw [if_pos hw]
  obtain ⟨w', hrun, r1, r2⟩ := h.put Kd ht hn (val := val) hkey hl
  unfold Oper.wp
  have he : (execOp a.eval o).run P w = .ok .skip w' := by simp [execOp, hop, hm, hx, hv, hrun, Result.andThen]
  rw [he, Oper.upon_skip, hd]
  exact hK w' r1 r2

theorem mine_few {rs : List Ru.Rule} (h : Few rs) (a b c : Int) : Few (Gr.mine rs a b c) :=
  ⟨Nat.le_trans (List.length_filter_le _ _) h.len, fun r hr => h.few r (List.mem_filter.1 hr).1, fun r hr => h.box r (List.mem_filter.1 hr).1⟩

end Go.Proofs.YteddkgpnklfppaaGreatDoor

namespace Go.Proofs.YteddkgpnklfppaaGreatDoor
open Go.RowKit Go.Sort Go.Maps

theorem zeroPatches (w : World) : (zeroValue 49).run Tryz.prog w = .ok (.slice none 0 0) w := by kernel_rfl
def PatchPost (w : World) (lo tb mb : Nat) (rs : List Ru.Rule) (n : Nat) (a b c : Int) (e : Ending) (w' : World) : Prop :=
  (∃ v, e = .returned v ∧ v.ownBlock ≠ some mb ∧ Row w' v (Gr.patches rs a b c).length 5 (patchesC (Gr.patches rs a b c))) ∧ Tab w' lo tb mb rs (n + 1) ∧ Touch mb w w'

set_option maxRecDepth 100000 in
set_option maxHeartbeats 8000000 in
/-- what was reckoned before -/
theorem patches_hit {w : World} {lo tb mb : Nat} {rs : List Ru.Rule} {n : Nat} (hT : Tab w lo tb mb rs n) {a b c : Int} (hk : Ru.numbers3 a b c = true) {f : Lit → Option Value} (hm : KMap Tryz.prog 108 w mb n f) {v : Value} (hf : f (keyL a b c) = some v)
    (hv : v.ownBlock ≠ some mb) (hr : Row w v (Gr.patches rs a b c).length 5 (patchesC (Gr.patches rs a b c))) :
    Calls Tryz.prog 20 #[.pointer (some ⟨tb, 0, none⟩), .int .i64 a, .int .i64 b, .int .i64 c] w (PatchPost w lo tb mb rs n a b c) := by
  obtain ⟨tv, hB, hR⟩ := hT.tv
  obtain ⟨p, cc, rfl⟩ := row_shape hr
  have z := balloc w (.cells #[.int .i64 a, .int .i64 b, .int .i64 c] 108)
  have T1 := hid (hT.ext z)
  have R1 := hid (hr.ext z)
  have Q1 := hid (Touch.of_below (b := mb) z)
  have hV := hid hv
  have k2 := (hB.ext z).cell 1 (v := .map (some mb)) rfl
  have kf := (hB.ext z).free
  have hlk : ∀ j, Sem.run Tryz.prog (Instr.lookup 58 (.map (some mb)) (.agg #[.int .i64 a, .int .i64 b, .int .i64 c]) true) ((w.alloc (.cells #[.int .i64 a, .int .i64 b, .int .i64 c] 108)).drewN j) = .ok (.tuple #[.slice p (Gr.patches rs a b c).length cc, .bool true]) ((w.alloc (.cells #[.int .i64 a, .int .i64 b, .int .i64 c] 108)).drewN j) := fun j => by
    have h := ((hm.ext z).drewN j).look law3 Tryz.underlying58 (zeroPatches _) (keyOf3 hk) trivial
    unfold keyV at h
    rw [h, hf]
    rfl
  clear hT hB hR hm hf hv hr z hk
  unfold PatchPost
  go_enter Tryz.func20, Tryz.ntmps20
  go_wp2_with fail
  go_quiet (fail)
  go_wp2_with fail
  go_ret
  exact ⟨⟨_, rfl, hV.out, R1.out⟩, (T1.out.ext (bdrewN (Below.refl _ _) nq)).mono (Nat.le_succ n), Q1.out.drewN _⟩

theorem filt_snoc {α : Type} (P : α → Bool) {ps : List α} {i : Nat} (hi : i < ps.length) : (ps.take (i + 1)).filter P = (ps.take i).filter P ++ (if P ps[i] then [ps[i]] else []) := by
  rw [← List.take_append_getElem hi, List.filter_append]
  congr 1
  cases h : P ps[i] <;> simp [h]
theorem mine_pairs (ps : List RP) (a b c : Int) : ((ps.filter fun p => Ru.forR p.1 a b c).map (·.1)) = Gr.mine (ps.map (·.1)) a b c := by
  unfold Gr.mine
  rw [List.filter_map]
  rfl

set_option maxRecDepth 100000 in
set_option maxHeartbeats 16000000 in
/-- what is reckoned now -/
theorem patches_miss {w : World} {lo tb mb : Nat} {rs : List Ru.Rule} {n : Nat} (hT : Tab w lo tb mb rs n) (hn : n ≤ 1000) {a b c : Int} (hk : Ru.numbers3 a b c = true) {f : Lit → Option Value} (hm : KMap Tryz.prog 108 w mb n f) (hf : f (keyL a b c) = none)
    (hall : ∀ a b c v, Ru.numbers3 a b c = true → f (keyL a b c) = some v → v.ownBlock ≠ some mb ∧ (∀ q, v.ownBlock = some q → lo ≤ q) ∧ Row w v (Gr.patches rs a b c).length 5 (patchesC (Gr.patches rs a b c))) :
    Calls Tryz.prog 20 #[.pointer (some ⟨tb, 0, none⟩), .int .i64 a, .int .i64 b, .int .i64 c] w (PatchPost w lo tb mb rs n a b c) := by
  obtain ⟨i0, hinf, hiz, hisz, hiby⟩ := info_parts Tryz.infoRule
  obtain ⟨tv, hB, hR⟩ := hT.tv
  obtain ⟨ps, hps, hpin, hsl⟩ := (hR w (Tch.of (Touch.refl _ _))).pairs
  have hlen : ps.length ≤ 33 := by have h := hT.few.len; rw [hps, List.length_map] at h; exact h
  obtain ⟨vp, vc, htv⟩ : ∃ p c, tv = .slice p ps.length c := by
    rcases hsl with ⟨rfl, rfl⟩ | ⟨g, off, cap, rfl, _⟩
    · exact ⟨_, _, rfl⟩
    · exact ⟨_, _, rfl⟩
  subst htv
  have hPR : Hid (0 < ps.length → ∃ g off, vp = some ⟨g, off, none⟩ ∧ PRow w g off vc ps) := by
    refine hid (fun hpos => ?_)
    rcases hsl with ⟨_, rfl⟩ | ⟨g, off, cap, hv, hr⟩
    · simp at hpos
    · cases hv; exact ⟨g, off, rfl, hr⟩
  have z := balloc w (.cells #[.int .i64 a, .int .i64 b, .int .i64 c] 108)
  have T0 := hid hT
  have P0 := hid hpin
  have M0 := hid hm
  have A0 := hid hall
  have K0 := hid hk
  have hmine := hid (mine_pairs ps a b c)
  rw [← hps] at hmine
  have hfew := hid (mine_few hT.few a b c)
  have Q1 := hid z
  have X1 := hid (Blk.new w #[.int .i64 a, .int .i64 b, .int .i64 c] 108)
  have B0 := hid hB
  have k2 := (hB.ext z).cell 1 (v := .map (some mb)) rfl
  have kf := (hB.ext z).free
  have htb := hB.lt
  have hmb := hT.lt
  have hlk : ∀ j, Sem.run Tryz.prog (Instr.lookup 58 (.map (some mb)) (.agg #[.int .i64 a, .int .i64 b, .int .i64 c]) true) ((w.alloc (.cells #[.int .i64 a, .int .i64 b, .int .i64 c] 108)).drewN j) = .ok (.tuple #[.slice none 0 0, .bool false]) ((w.alloc (.cells #[.int .i64 a, .int .i64 b, .int .i64 c] 108)).drewN j) := fun j => by
    have h := ((hm.ext z).drewN j).look law3 Tryz.underlying58 (zeroPatches _) (keyOf3 hk) trivial
    unfold keyV at h
    rw [h, hf]
    rfl
  have hsz1 : (w.alloc (.cells #[.int .i64 a, .int .i64 b, .int .i64 c] 108)).heap.size = w.heap.size + 1 := World.size_alloc _ _
  clear hT hB hR hm hf hall z hk hpin hsl hps
  unfold PatchPost
  go_enter Tryz.func20, Tryz.ntmps20
  go_wp2_with fail
  go_quiet (fail)
  go_upto_region 6 with (fail)
  have X2 := hid (X1.out.drewN nq)
  have Q2 := hid (bdrewN Q1.out nq)
  have hsz2 : ((w.alloc (.cells #[.int .i64 a, .int .i64 b, .int .i64 c] 108)).drewN nq).heap.size = w.heap.size + 1 := hsz1
  have k0 : ((w.alloc (.cells #[.int .i64 a, .int .i64 b, .int .i64 c] 108)).drewN nq).cell? ⟨tb, 0, none⟩ = some (.slice vp ps.length vc) := (Q2.out.cell (p := ⟨tb, 0, none⟩) htb).trans (B0.out.cell 0 rfl)
  clear hlk k2 kf hsz1 X1 Q1
  generalize (w.alloc (.cells #[.int .i64 a, .int .i64 b, .int .i64 c] 108)).drewN nq = w1 at *
  go_wp2_with fail
  clear k0
  go_loopw [12, 36] (fun o u wr => ∃ i : Nat, u = .int .i64 i ∧ i ≤ ps.length ∧ wr.ownsRow w1.heap.size 56 7 o ((ps.take i).filter fun p => Ru.forR p.1 a b c).length (pairCells ((ps.take i).filter fun p => Ru.forR p.1 a b c)) ∧ Below w1.heap.size w1 wr) (fun _ u _ => ps.length - (intOf u).toNat)
  case atStart => exact ⟨0, rfl, Nat.zero_le _, World.ownsRow_nil _ _ _ _, Below.refl _ _⟩
  case round =>
    obtain ⟨i, rfl, hle, hO, hQ⟩ := hrel
    have O2 := hid hO
    have Q3 := hid hQ
    clear hO hQ
    by_cases hlt : i < ps.length
    · obtain ⟨g, off, rfl, hg⟩ := hPR.out (by omega)
      have QW := hid (Q2.out.trans (Q3.out.mono (by have := Q2.out.size; omega)))
      have hat := hid ((hg.ext QW.out).get i hlt)
      obtain ⟨hbx, hfw⟩ := P0.out _ (List.getElem_mem hlt)
      have hfil := hid (filt_snoc (fun p : RP => Ru.forR p.1 a b c) hlt)
      have hfl : ((ps.take i).filter fun p : RP => Ru.forR p.1 a b c).length ≤ 33 := Nat.le_trans (List.length_filter_le _ _) (by rw [List.length_take]; omega)
      have hone := hid (ruleArr_one ps[i].1 hbx.one)
      have hbx' := hid hbx
      clear hg hbx
      generalize ps[i] = p at *
      generalize hD : (ps.take i).filter (fun p : RP => Ru.forR p.1 a b c) = D at *
      clear hD
      obtain ⟨op, oc, hov⟩ := row_shape (Row.of_owns O2.out)
      subst hov
      have z2 := balloc wr (.cells (ruleArr p.1 p.2) 56)
      have O3 := hid (owns_ext O2.out z2)
      have Q4 := hid (Q3.out.trans (z2.mono Q3.out.size))
      have R3 := hid (Blk.new wr (ruleArr p.1 p.2) 56)
      have hfor := hid (for_any (w := wr.alloc (.cells (ruleArr p.1 p.2) 56)) p.1 a b c ((hbx'.out.ext QW.out).ext z2) hfw)
      clear z2 O2 Q3
      go_upto_region 9 with (first | (refine wpList_load_at rfl 56 (.tmp 38) rfl 39 rfl g (off + i * 7) (ruleArr p.1 p.2) (hat.out) rfl Tryz.underlying56 rfl (by kernel_rfl) ?_) | (refine wpList_store_new rfl 56 (.tmp 14) (.tmp 39) rfl rfl wr 56 _ (ruleArr p.1 p.2) rfl rfl rfl (by kernel_rfl) rfl (hone.out) ?_))
      generalize wr.alloc (.cells (ruleArr p.1 p.2) 56) = wa at *
      generalize wr.heap.size = kr at *
      clear hat
      go_wp2_with (first | (refine wpList_load_blk rfl 56 (.tmp 14) rfl 40 rfl kr 56 (ruleArr p.1 p.2) (R3.out) rfl Tryz.underlying56 rfl (by kernel_rfl) ?_))
      refine hfor.out.mono ?_
      rintro e w3 ⟨rfl, hb3⟩
      have O4 := hid (owns_ext O3.out hb3)
      have Q5 := hid (Q4.out.trans (hb3.mono Q4.out.size))
      have R4 := hid (R3.out.ext hb3)
      clear hb3 O3 Q4 R3 hfor
      cases hfr : Ru.forR p.1 a b c with
      | false =>
        rw [hfr] at hfil
        simp only [Bool.false_eq_true, if_false, List.append_nil] at hfil
        clear hfr
        go_wp2_with fail
        go_roundw
        case rel => exact ⟨i + 1, by go_num, by omega, by rw [hfil.out]; exact O4.out, Q5.out⟩
        case measure => simp [intOf]; omega
      | true =>
        rw [hfr] at hfil
        simp only [if_true] at hfil
        clear hfr
        have hal := hid (O4.out.alloc (.cells (ruleArr p.1 p.2) 56))
        have hc1 := hid (cells_new w3 (ruleArr p.1 p.2).toList 56 (k := w3.heap.size) rfl)
        rw [Array.toArray_toList] at hc1
        have hone2 : Hid (∀ u ∈ (ruleArr p.1 p.2).toList, u.oneCell' = true) := hid (fun u hu => (Array.all_eq_true_iff_forall_mem.1 hone.out) u (by simpa using hu))
        have hlen7 : (ruleArr p.1 p.2).toList.length = 7 := rfl
        have hcap : D.length + 1 ≤ maxLen := by unfold maxLen; omega
        have hz5 := Q5.out.size
        go_wp2_with (first | (refine wpList_load_blk rfl 56 (.tmp 14) rfl 46 rfl kr 56 (ruleArr p.1 p.2) (R4.out) rfl Tryz.underlying56 rfl (by kernel_rfl) ?_) | (refine wpList_buildOne rfl 28 56 (.tmp 46) rfl 47 rfl Tryz.underlying28 i0 _ hinf hiz 7 hisz (by decide) (by decide) (ruleArr p.1 p.2) rfl rfl ?_) | (at_builtin; refine Go.wpList_append_own_at _ rfl _ _ 28 rfl w1.heap.size 56 i0 _ 7 72 Tryz.underlying28 hinf hiz hisz hiby rfl (by decide) _ _ _ rfl hal.out ⟨w3.heap.size, 0, none⟩ 1 1 (ruleArr p.1 p.2).toList rfl hlen7 hc1.out hone2.out hcap (by omega) (by simp; omega) ?_; intro v6 w6 hown6 hgrow _ hat6))
        go_roundw
        case rel =>
          refine ⟨i + 1, by go_num, by omega, ?_, ?_⟩
          · have e1 : (D ++ [p]).length = D.length + 1 := by simp
            rw [hfil.out, e1, pairCells_snoc]
            exact hown6
          · exact (Q5.out.alloc hz5 _).grown hgrow (by rw [World.size_alloc]; omega) (fun k hk => by have := (hal.out.lt k hk).1; omega)
        case measure => simp [intOf]; omega
    · obtain rfl : i = ps.length := by omega
      have O3 := O2.out
      rw [List.take_of_length_le (Nat.le_refl _)] at O3
      have QW := hid (Q2.out.trans (Q3.out.mono (by have := Q2.out.size; omega)))
      have hsl := RSl.of_own O3 rfl (fun p hp => ⟨(P0.out p (List.mem_filter.1 hp).1).1.ext QW.out, (P0.out p (List.mem_filter.1 hp).1).2⟩)
      rw [hmine.out] at hsl
      have S3 := hid hsl
      obtain ⟨op, oc, hov⟩ := row_shape (Row.of_owns O3)
      subst hov
      have hwm : w.heap.size ≤ wr.heap.size := QW.out.size
      have hbd := hid (bands_any (w := wr.alloc (.cells #[.slice none 0 0] 49)) (ob := wr.heap.size) (l := Gr.mine rs a b c) (Blk.new _ _ _) (fun w' ht => S3.out.ext ((balloc wr _).trans (ht.to_below (by rw [World.size_alloc]; omega) (Nat.le_refl _)))) hfew.out)
      have QB := hid (fun w' (ht : Touch wr.heap.size (wr.alloc (.cells #[.slice none 0 0] 49)) w') => (show Below wr.heap.size wr w' from (balloc wr _).trans (ht.to_below (by rw [World.size_alloc]; omega) (Nat.le_refl _))))
      have XW := hid (X2.out.ext (Q3.out))
      unfold takeFV at hbd
      clear O3 O2 hsl
      go_wp2_with fail
      refine hbd.out.mono ?_
      rintro e w3 ⟨rfl, ⟨v', hb3, hr3, hq3⟩, ht3⟩
      have QC := hid (QB.out w3 ht3)
      have Q5 := hid (QW.out.trans (QC.out.mono hwm))
      have O5 := hid hb3
      have R5 := hid hr3
      have F5 := hid (show v'.ownBlock ≠ some mb from fun e => by have := hq3 mb e; rw [World.size_alloc] at this; omega)
      have L5 := hid (fun q (hq : v'.ownBlock = some q) => (show lo ≤ q by have := hq3 q hq; rw [World.size_alloc] at this; have := T0.out.low; omega))
      have X5 := hid (XW.out.ext QC.out)
      obtain ⟨pp, pc, hpv⟩ := row_shape hr3
      subst hpv
      clear hb3 hr3 hq3 ht3 hbd QB
      have hkb : wr.heap.size ≠ mb := by omega
      have M3 := hid (M0.out.ext Q5.out.drew)
      have t1 : w3.cell? ⟨tb, 1, none⟩ = some (.map (some mb)) := (Q5.out.cell (p := ⟨tb, 1, none⟩) htb).trans (B0.out.cell 1 rfl)
      have t2 := X5.out.cell 0 (v := .int .i64 a) rfl
      have t3 := X5.out.cell 1 (v := .int .i64 b) rfl
      have t4 := X5.out.cell 2 (v := .int .i64 c) rfl
      have t5 := O5.out.cell 0 (v := .slice pp (Gr.bands (Gr.mine rs a b c)).length pc) rfl
      have hnm : n < maxLen := by unfold maxLen; omega
      clear X5 XW
      go_upto_region 14 with (fail)
      obtain ⟨w4, hrun, hm4, hg4⟩ := M3.out.put (t := 58) law3 Tryz.underlying58 hnm (val := .slice pp (Gr.bands (Gr.mine rs a b c)).length pc) (keyOf3 K0.out) trivial
      have M4 := hid hm4
      have T4 := hid ((Touch.of_below (b := mb) Q5.out).drew.trans (Touch.of_grown hg4))
      have R6 := hid (R5.out.touch ((Touch.refl mb w3).drew.trans (Touch.of_grown hg4)) F5.out)
      have t6 := (Blk.grown (Blk.drew O5.out) hg4 (fun e => hkb (Option.some.inj e).symm)).cell 0 (v := .slice pp (Gr.bands (Gr.mine rs a b c)).length pc) rfl
      unfold keyV at hrun
      clear hm4 hg4
      go_region
      all_goals
        clear t1 t2 t3 t4 t5 hrun
        go_wp2_with fail
        go_ret
        exact ⟨⟨_, rfl, F5.out, R6.out⟩, T0.out.put T4.out K0.out F5.out L5.out R6.out A0.out M4.out, T4.out⟩

theorem patches_any {w : World} {lo tb mb : Nat} {rs : List Ru.Rule} {n : Nat} (hT : Tab w lo tb mb rs n) (hn : n ≤ 1000) {a b c : Int} (hk : Ru.numbers3 a b c = true) :
    Calls Tryz.prog 20 #[.pointer (some ⟨tb, 0, none⟩), .int .i64 a, .int .i64 b, .int .i64 c] w (PatchPost w lo tb mb rs n a b c) := by
  obtain ⟨f, hm, hall⟩ := hT.map
  cases hf : f (keyL a b c) with
  | none => exact patches_miss hT hn hk hm hf hall
  | some v => exact patches_hit hT hk hm hf (hall a b c v hk hf).1 (hall a b c v hk hf).2.2

end Go.Proofs.YteddkgpnklfppaaGreatDoor

namespace Go.Proofs.YteddkgpnklfppaaGreatDoor
open Go.RowKit Go.Sort Go.Maps

theorem Tab.cells {w : World} {lo tb mb : Nat} {rs : List Ru.Rule} {n : Nat} (h : Tab w lo tb mb rs n) : (∃ u, w.cell? ⟨tb, 1, none⟩ = some (.map (some u))) ∧ tb < w.heap.size := by
  obtain ⟨tv, h1, _⟩ := h.tv
  exact ⟨⟨mb, h1.cell 1 rfl⟩, h1.lt⟩
theorem made_any {w : World} {lo tb mb : Nat} {rs : List Ru.Rule} {n : Nat} (h : Tab w lo tb mb rs n) : Calls Tryz.prog 18 #[.pointer (some ⟨tb, 0, none⟩)] w fun e w' => e = .returned (.bool true) ∧ w = w' := by
  obtain ⟨⟨u, h1⟩, h2⟩ := h.cells
  clear h
  have hm := fun (w : World) (r : Option Nat) => run_neq_map_nil (P := Tryz.prog) w 58 108 49 r Tryz.underlying58
  go_enter Tryz.func18, Tryz.ntmps18
  go_wp2_with fail
  go_ret
  exact ⟨rfl, rfl⟩
theorem gright_any (a b c : Int) (w : World) : Calls Tryz.prog 19 #[.int .i64 a, .int .i64 b, .int .i64 c] w fun e w' => e = .returned (.bool (Ru.numbers3 a b c)) ∧ w = w' := by
  go_enter Tryz.func19, Tryz.ntmps19
  go_wp2
  all_goals
    go_ret
    exact ⟨ret_bool (by unfold Ru.numbers3 Ru.small; first | (simp_all; done) | (simp_all; omega)), rfl⟩

theorem bandsN_len (l : List Ru.Rule) (xs ys : List Int) (i : Nat) : (Gr.bandsN l xs ys i).length ≤ (ys.length - i) * xs.length := by
  rw [Gr.bandsN]
  split
  · rename_i h
    have hk := Gr.bandEnd_le l xs ys (Gr.row l xs (ys.getD i 0)) (i + 1)
    have hr := grow_len l xs (ys.getD i 0)
    have ih := bandsN_len l xs ys (Gr.bandEnd l xs ys (Gr.row l xs (ys.getD i 0)) (i + 1))
    rw [List.length_append, bandP_len]
    have h1 : (ys.length - Gr.bandEnd l xs ys (Gr.row l xs (ys.getD i 0)) (i + 1)) * xs.length ≤ (ys.length - (i + 1)) * xs.length := Nat.mul_le_mul_right _ (by omega)
    have h2 : (ys.length - i) * xs.length = (ys.length - (i + 1)) * xs.length + xs.length := by rw [show ys.length - i = (ys.length - (i + 1)) + 1 by omega, Nat.add_mul, Nat.one_mul]
    omega
  · exact Nat.zero_le _
termination_by ys.length - i
decreasing_by simp only [List.getD_eq_getElem?_getD] at *; omega
theorem patches_len {rs : List Ru.Rule} (h : Few rs) (a b c : Int) : (Gr.patches rs a b c).length ≤ 7000000 := by
  have h1 := edges_len (of := Gr.ofX) (mine_few h a b c)
  have h2 := edges_len (of := Gr.ofY) (mine_few h a b c)
  unfold Gr.patches Gr.bands
  refine Nat.le_trans (bandsN_len _ _ _ 0) ?_
  rw [Nat.sub_zero]
  exact Nat.le_trans (Nat.mul_le_mul h2 h1) (by decide)
/-- a point's zoom as the table tells it -/
def zoomT (rs : List Ru.Rule) (a b c x y : Int) : Int := if Ru.numbers3 a b c = true then Gr.zoomP (Gr.patches rs a b c) x y else 0
theorem find_here {ps : List Gr.Patch} {x y : Int} {i : Nat} (hi : i < ps.length) (h : (ps.take i).any (fun q => Ru.boxHas q.box x y) = false) (h2 : Ru.boxHas ps[i].box x y = true) : Gr.zoomP ps x y = ps[i].z := by
  obtain ⟨q, hq⟩ : ∃ q, ps[i] = q := ⟨_, rfl⟩
  have hs : ps = ps.take i ++ q :: ps.drop (i + 1) := by rw [← hq, List.getElem_cons_drop, List.take_append_drop]
  rw [hq] at h2 ⊢
  unfold Gr.zoomP
  have e : ps.find? (fun q => Ru.boxHas q.box x y) = some q := by
    have hn : (ps.take i).find? (fun q => Ru.boxHas q.box x y) = none := by
      rw [List.find?_eq_none]
      intro u hu h3
      exact List.any_eq_false.1 h u hu h3
    rw [hs, List.find?_append, hn, Option.none_or, List.find?_cons_of_pos (p := fun q : Gr.Patch => Ru.boxHas q.box x y) h2]
  rw [e]
theorem find_none {ps : List Gr.Patch} {x y : Int} (h : ps.any (fun q => Ru.boxHas q.box x y) = false) : Gr.zoomP ps x y = 0 := by
  unfold Gr.zoomP
  have e : ps.find? (fun q => Ru.boxHas q.box x y) = none := by
    rw [List.find?_eq_none]
    intro q hq h3
    exact List.any_eq_false.1 h q hq h3
  rw [e]
theorem patchArr_one (q : Gr.Patch) : (patchArr q).all (·.oneCell') = true := by unfold patchArr; rw [← Array.all_toList]; rfl
theorem patch_srow {w : World} {v : Value} {l : List Gr.Patch} (h : Row w v l.length 5 (patchesC l)) : (v = .slice none 0 0 ∧ l = []) ∨ ∃ g off cap, v = .slice (some ⟨g, off, none⟩) l.length cap ∧ SRow w g off cap 5 patchArr l :=
  srow_of (f := patchArr) (fun _ _ => rfl) h
theorem patch_box {w : World} {k : Nat} {q : Gr.Patch} (h : Blk w k (patchArr q) 63) : w.rangeAt k 0 (boxArr q.box).toList := h.range 0 4

def ZoomPost (w : World) (lo tb mb : Nat) (rs : List Ru.Rule) (n : Nat) (z : Int) (e : Ending) (w' : World) : Prop := e = .returned (.int .i64 z) ∧ Tab w' lo tb mb rs (n + 1) ∧ Touch mb w w'

set_option maxRecDepth 100000 in
set_option maxHeartbeats 8000000 in
theorem tzoom_any {w : World} {lo tb mb : Nat} {rs : List Ru.Rule} {n : Nat} (hT : Tab w lo tb mb rs n) (hn : n ≤ 1000) (a b c x y : Int) :
    Calls Tryz.prog 7 #[.pointer (some ⟨tb, 0, none⟩), .int .i64 a, .int .i64 b, .int .i64 c, .agg #[.int .i64 x, .int .i64 y]] w (ZoomPost w lo tb mb rs n (zoomT rs a b c x y)) := by
  have z := balloc w (.cells #[.int .i64 x, .int .i64 y] 25)
  have T1 := hid (hT.ext z)
  have Q1 := hid (Touch.of_below (b := mb) z)
  have P1 := hid (Blk.new w #[.int .i64 x, .int .i64 y] 25)
  have hmd := hid (made_any (hT.ext z))
  have hpb : w.heap.size ≠ mb := by have := hT.lt; omega
  unfold ZoomPost
  cases hk : Ru.numbers3 a b c with
  | false =>
    have e := hid (show zoomT rs a b c x y = 0 by unfold zoomT; rw [hk]; rfl)
    have hk' := hid hk
    clear hT z hk
    go_enter Tryz.func7, Tryz.ntmps7
    go_wp2_with fail
    refine hmd.out.mono ?_
    rintro e w1 ⟨rfl, rfl⟩
    go_wp2_with fail
    refine (gright_any _ _ _ _).mono ?_
    rintro e w2 ⟨rfl, rfl⟩
    rw [hk'.out]
    go_wp2_with fail
    go_ret
    exact ⟨ret_int e.out.symm, T1.out.mono (Nat.le_succ n), Q1.out⟩
  | true =>
    have e := hid (show zoomT rs a b c x y = Gr.zoomP (Gr.patches rs a b c) x y by unfold zoomT; rw [if_pos hk])
    have hk' := hid hk
    have hpt := hid (patches_any (hT.ext z) hn hk)
    have hpl := patches_len hT.few a b c
    unfold PatchPost at hpt
    clear hT z hk
    go_enter Tryz.func7, Tryz.ntmps7
    go_wp2_with fail
    refine hmd.out.mono ?_
    rintro e w1 ⟨rfl, rfl⟩
    go_wp2_with fail
    refine (gright_any _ _ _ _).mono ?_
    rintro e w2 ⟨rfl, rfl⟩
    rw [hk'.out]
    go_wp2_with fail
    refine hpt.out.mono ?_
    rintro e w3 ⟨⟨v, rfl, hv, hr⟩, hT3, ht3⟩
    have T3 := hid hT3
    have Q3 := hid (Q1.out.trans ht3)
    have P3 := hid (P1.out.touch ht3 hpb)
    have R3 := hid hr
    obtain ⟨vp, vc, hvv⟩ := row_shape hr
    subst hvv
    clear hv hr hT3 ht3 T1 Q1 P1 hmd hpt
    generalize w.heap.size = pb at *
    generalize Gr.patches rs a b c = ps at *
    by_cases h0 : ps.length = 0
    · have hnil := List.eq_nil_of_length_eq_zero h0
      subst hnil
      clear h0
      go_wp2_with fail
      go_loop [29] (fun u => u = .int .i64 0) (fun _ => 0)
      case atStart => rfl
      case round =>
        subst hrel
        go_wp2_with fail
        go_ret
        exact ⟨ret_int e.out.symm, T3.out, Q3.out⟩
    · rcases patch_srow R3.out with ⟨_, rfl⟩ | ⟨g, off, cap, hvv, hsr⟩
      · exact absurd rfl h0
      cases hvv
      have S3 := hid hsr
      clear h0 hsr R3
      go_wp2_with fail
      go_loopw [29] (fun u wr => ∃ i : Nat, u = .int .i64 i ∧ i ≤ ps.length ∧ Below w3.heap.size w3 wr ∧ (ps.take i).any (fun q => Ru.boxHas q.box x y) = false) (fun u _ => ps.length - (intOf u).toNat)
      case atStart => exact ⟨0, rfl, Nat.zero_le _, Below.refl _ _, rfl⟩
      case round =>
        obtain ⟨i, rfl, hle, hQ, hall⟩ := hrel
        have Q4 := hid hQ
        have A4 := hid hall
        have T4 := hid ((T3.out.ext hQ))
        have U4 := hid (Q3.out.below hQ)
        have P4 := hid (P3.out.ext hQ)
        clear hQ hall
        by_cases hlt : i < ps.length
        · have hat := hid ((S3.out.ext Q4.out).get i hlt)
          have hyes := hid (fun h => find_here (x := x) (y := y) hlt A4.out h)
          have hno := hid (fun h => any_take (p := fun q : Gr.Patch => Ru.boxHas q.box x y) hlt A4.out h)
          generalize ps[i] = q at *
          have hone := hid (patchArr_one q)
          have z4 := balloc wr (.cells (patchArr q) 63)
          have B5 := hid (Blk.new wr (patchArr q) 63)
          have P5 := hid (P4.out.ext z4)
          have Q5 := hid (bthen Q4.out z4)
          have hb : Hid (∀ w, Calls Tryz.prog 9 #[.agg (boxArr q.box), .agg #[.int .i64 x, .int .i64 y]] w fun e w' => e = .returned (.bool (Ru.boxHas q.box x y)) ∧ Below w.heap.size w w') := hid (has_any q.box x y)
          clear z4 Q4 P4
          go_upto_region 6 with (first | (refine wpList_load_at rfl 63 (.tmp 31) rfl 32 rfl g (off + i * 5) (patchArr q) (hat.out) rfl Tryz.underlying63 rfl (by kernel_rfl) ?_) | (refine wpList_store_new rfl 63 (.tmp 12) (.tmp 32) rfl rfl wr 63 _ (patchArr q) rfl rfl rfl (by kernel_rfl) rfl (hone.out) ?_))
          generalize wr.alloc (.cells (patchArr q) 63) = wa at *
          generalize wr.heap.size = k at *
          clear hat hone
          go_wp2_with (first | (refine wpList_load_at rfl 27 (.tmp 33) rfl 34 rfl k (0) (boxArr q.box) (patch_box B5.out) rfl Tryz.underlying27 rfl (by kernel_rfl) ?_) | (refine wpList_load_blk rfl 25 (.tmp 9) rfl 35 rfl pb 25 (#[.int .i64 x, .int .i64 y]) (P5.out) rfl Tryz.underlying25 rfl (by kernel_rfl) ?_))
          refine (hb.out _).mono ?_
          rintro e5 w5 ⟨rfl, hb5⟩
          have Q6 := hid (bthen Q5.out hb5)
          have B6 := hid (B5.out.ext hb5)
          clear hb5 hb Q5 B5 P5
          cases hbh : Ru.boxHas q.box x y with
          | false =>
            have hy := hid (hno.out hbh)
            clear hbh
            go_wp2_with fail
            go_roundw
            case rel => exact ⟨i + 1, by go_num, by omega, Q6.out, hy.out⟩
            case measure => simp [intOf]; omega
          | true =>
            have hy := hid (hyes.out hbh)
            have q4 := B6.out.cell 4 (v := .int .i64 q.z) rfl
            clear hbh
            go_wp2_with fail
            go_ret
            exact ⟨ret_int (by rw [e.out, hy.out]), T3.out.ext Q6.out, Q3.out.below Q6.out⟩
        · obtain rfl : i = ps.length := by omega
          have hz := hid (show Gr.zoomP ps x y = 0 from find_none (by have h := A4.out; rwa [List.take_of_length_le (Nat.le_refl _)] at h))
          clear P4 Q4
          go_wp2_with fail
          go_ret
          exact ⟨ret_int (by rw [e.out, hz.out]), T4.out, U4.out⟩

end Go.Proofs.YteddkgpnklfppaaGreatDoor
