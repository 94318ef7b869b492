/-
  The tree of points as plain Lean: what each step of a putting wants, and gives; how many nodes there can be. No program.
  The tree of points in memory: what lies where, and what stays.
  The walks of the tree of points: made, leaf.
  The walks of the tree of points: which child has a point; a cell's child.
-/
import Derived.Test.YteddkgpnklfppaaPk01
import Derived.Test.YteddkgpnklfppaaPk04
import Derived.Deep.RegionLaw
import Derived.Deep.AppendLies
import Derived.Maps.AppendAt
import Derived.Deep.RegionHeld3

namespace Go.Proofs.Yteddkgpnklfppaa.Tc

/-- what a putting wants -/
structure Pre (f : Nat) (N : List Node) (a : Nat) (n : Node) (r : Rec) (A : List Rec) : Prop where
  shape : Shape N
  at_ : N[a]? = some n
  has : n.has r = true
  fit : r.fit
  fuel : (if n.split then 2 * (16 - n.lv) else 2 * (16 - n.lv) + 1) ≤ f
  holds : Holds N n.lv n.X n.Y A
theorem Pre.pos {f : Nat} {N : List Node} {a : Nat} {n : Node} {r : Rec} {A : List Rec} (h : Pre f N a n r A) : 0 < f := by
  have := h.fuel
  split at this
  · rename_i hs
    have := (h.shape.kids a n h.at_ hs).2.1
    omega
  · omega
theorem Pre.lt {f : Nat} {N : List Node} {a : Nat} {n : Node} {r : Rec} {A : List Rec} (h : Pre f N a n r A) : a < N.length := (List.getElem?_eq_some_iff.1 h.at_).1
theorem Pre.kid {f : Nat} {N : List Node} {a : Nat} {n : Node} {r : Rec} {A : List Rec} (h : Pre (f + 1) N a n r A) (hs : n.split = true) :
    ∃ (k : Nat) (m : Node), n.kid (which n.lv r) = (k : Int) ∧ k ≠ a ∧ n.lv < 16 ∧ Pre f (N.set a (more n)) k m r A ∧ (∀ b, putV b (f + 1) N a r = putV b f (N.set a (more n)) k r) := by
  have ha := h.at_
  obtain ⟨hnl, h16, hk⟩ := h.shape.kids a n ha hs
  obtain ⟨k, m, m1, m2, m3, m4, m5, m6⟩ := hk (which n.lv r) (which_lt _ _)
  have hma : k ≠ a := by omega
  have hf := h.fuel
  rw [hs, if_pos rfl] at hf
  have hq4 := which_lt n.lv r
  have hum : Under n.lv n.X n.Y m := under_child m4 (by omega) (by omega)
  refine ⟨k, m, m1, hma, h16, ⟨h.shape.set ha rfl rfl rfl rfl (fun _ => rfl) (fun _ => hnl), by rw [set_get_other hma]; exact m3, kid_has h.has h16 m4 m5 m6, h.fit, by split <;> omega, fun i c hc hu => ?_⟩, fun b => ?_⟩
  · rcases set_get hc with ⟨rfl, _, rfl⟩ | ⟨hi, hc'⟩
    · have : m.lv ≤ n.lv := hu.1
      omega
    · exact h.holds i c hc' (under_trans hum hu)
  · rw [putV, ha]
    simp only
    rw [if_pos hs, m1, Int.toNat_natCast]
theorem Pre.add {f : Nat} {N : List Node} {a : Nat} {n : Node} {r : Rec} {A : List Rec} (h : Pre (f + 1) N a n r A) (hs : n.split = false) {b : Nat} (hp : ¬ (b < n.l.length + 1 ∧ n.lv < 16)) : putV b (f + 1) N a r = N.set a (addR n r) := by
  rw [putV, h.at_]
  simp only
  rw [if_neg (by rw [hs]; decide), if_neg hp]
theorem Pre.parts {f : Nat} {N : List Node} {a : Nat} {n : Node} {r : Rec} {A : List Rec} (h : Pre (f + 1) N a n r A) (hs : n.split = false) {b : Nat} (hp : b < n.l.length + 1 ∧ n.lv < 16) : putV b (f + 1) N a r = (n.l ++ [r]).foldl (fun M x => putV b f M a x) (partN N a n) := by
  rw [putV, h.at_]
  simp only
  rw [if_neg (by rw [hs]; decide), if_pos hp]
theorem Pre.short {f : Nat} {N : List Node} {a : Nat} {n : Node} {r : Rec} {A : List Rec} (h : Pre f N a n r A) (hs : n.split = false) : n.l.length ≤ A.length := by
  rw [(h.holds a n h.at_ (under_self n)).2 hs]
  exact List.length_filter_le _ _
/-- a leaf that was parted, while its records are put anew -/
structure Mid (a : Nat) (n : Node) (P : List Rec) (M : List Node) : Prop where
  shape : Shape M
  holds : Holds M n.lv n.X n.Y P
  at_ : ∃ n', M[a]? = some n' ∧ n'.split = true ∧ n'.lv = n.lv ∧ n'.X = n.X ∧ n'.Y = n.Y
theorem Pre.mid {f : Nat} {N : List Node} {a : Nat} {n : Node} {r : Rec} {A : List Rec} (h : Pre f N a n r A) (hs : n.split = false) (hl : n.lv < 16) : Mid a n [] (partN N a n) := by
  refine ⟨h.shape.part h.at_ hs hl, fun i c hc hu => ?_, ⟨_, part_self h.at_, rfl, rfl, rfl, rfl⟩⟩
  rcases part_get hc with ⟨rfl, rfl⟩ | ⟨hi, hc'⟩ | ⟨q, hq, hi, rfl⟩
  · exact ⟨rfl, fun _ => rfl⟩
  · exact absurd (h.shape.leaf h.at_ hs hc' hu) hi
  · exact ⟨rfl, fun _ => rfl⟩
theorem Mid.pre {a : Nat} {n : Node} {P : List Rec} {M : List Node} (h : Mid a n P M) {x : Rec} (hx : n.has x = true) (hxf : x.fit) {f : Nat} (hf : 2 * (16 - n.lv) ≤ f) : ∃ n', Pre f M a n' x P := by
  obtain ⟨n', e0, e1, e2, e3, e4⟩ := h.at_
  refine ⟨n', h.shape, e0, ?_, hxf, by rw [e1, if_pos rfl, e2]; exact hf, by rw [e2, e3, e4]; exact h.holds⟩
  rw [has_iff] at hx ⊢
  rw [e2, e3, e4]; exact hx
theorem Mid.step {a : Nat} {n : Node} {P : List Rec} {M : List Node} (h : Mid a n P M) {x : Rec} (hx : n.has x = true) (hxf : x.fit) {f : Nat} (hf : 2 * (16 - n.lv) ≤ f) (b : Nat) : Mid a n (P ++ [x]) (putV b f M a x) := by
  obtain ⟨n', e0, e1, e2, e3, e4⟩ := h.at_
  obtain ⟨n2, hp⟩ := h.pre hx hxf hf
  have : n2 = n' := by have := hp.at_; rw [e0] at this; cases this; rfl
  subst this
  have hq := put_ok b f M a x n2 P hp.shape hp.at_ hp.has hp.fuel hp.holds
  rw [e2, e3, e4] at hq
  refine ⟨hq.shape, hq.holds, ?_⟩
  obtain ⟨n3, d1, d2, d3, d4, _, d6⟩ := hq.kept.old a n2 e0
  exact ⟨n3, d1, d6 e1, by rw [d2, e2], by rw [d3, e3], by rw [d4, e4]⟩
/-- all records of a leaf are of its cell -/
theorem Pre.all {f : Nat} {N : List Node} {a : Nat} {n : Node} {r : Rec} {A : List Rec} (h : Pre f N a n r A) (hs : n.split = false) (hA : ∀ x ∈ A, x.fit) : ∀ x ∈ n.l ++ [r], n.has x = true ∧ x.fit := fun x hx => by
  rw [List.mem_append] at hx
  rcases hx with hx | hx
  · rw [(h.holds a n h.at_ (under_self n)).2 hs] at hx
    exact ⟨(List.mem_filter.1 hx).2, hA x (List.mem_filter.1 hx).1⟩
  · rw [List.mem_singleton.1 hx]; exact ⟨h.has, h.fit⟩
theorem partN_add (N : List Node) (a : Nat) (n : Node) (r : Rec) : partN (N.set a (addR n r)) a (addR n r) = partN N a n := by
  unfold partN
  rw [List.set_set, List.length_set]
  rfl
/-- the tree, asked for its root -/
theorem Tree.pre {N : List Node} {A : List Rec} (h : Tree N A) {r : Rec} (hr : r.fit) : ∃ n, Pre fuel N 0 n r A := by
  obtain ⟨n, n1, n2, n3, n4⟩ := h.root
  obtain ⟨r1, r2, r3, r4⟩ := hr
  exact ⟨n, h.shape, n1, by rw [has_iff, n2, n3, n4, sh_0 r1 r2, sh_0 r3 r4]; exact ⟨rfl, rfl⟩, ⟨r1, r2, r3, r4⟩, by unfold fuel; split <;> omega, by rw [n2, n3, n4]; exact h.holds⟩

/-! ### so many nodes there can be -/
theorem nodup_len {α : Type} : ∀ (a b : List α), a.Pairwise (· ≠ ·) → (∀ x ∈ a, x ∈ b) → a.length ≤ b.length
  | [], _, _, _ => Nat.zero_le _
  | x :: a, b, h, hs => by
    classical
    rw [List.pairwise_cons] at h
    have h1 := nodup_len a (b.erase x) h.2 (fun y hy => by
      have hne : y ≠ x := fun e => h.1 y hy e.symm
      exact (List.mem_erase_of_ne hne).2 (hs y (List.mem_cons_of_mem _ hy)))
    have hx := hs x List.mem_cons_self
    have h2 := List.length_erase_of_mem hx
    have h3 := List.length_pos_of_mem hx
    rw [List.length_cons]
    omega
def num (n : Node) : Nat := (mort n.lv n.X n.Y).toNat * 17 + n.lv
theorem pow4_le {l : Nat} (h : l ≤ 16) : (4 : Int) ^ l ≤ 4294967296 := by
  have h1 : (4 : Int) ^ 16 = 4294967296 := by decide
  have h2 : (4 : Int) ^ 16 = 4 ^ l * 4 ^ (16 - l) := by rw [← Int.pow_add]; congr 1; omega
  have h3 : (1 : Int) ≤ 4 ^ (16 - l) := by
    have : (0 : Int) < 4 ^ (16 - l) := Int.pow_pos (by decide)
    omega
  have h4 : (0 : Int) < 4 ^ l := Int.pow_pos (by decide)
  have h5 := Int.mul_le_mul_of_nonneg_left h3 (show (0 : Int) ≤ 4 ^ l by omega)
  omega
theorem num_lt {n : Node} (h : n.lv ≤ 16) : num n < 73014444032 := by
  unfold num
  obtain ⟨h1, h2⟩ := mort_bd n.lv n.X n.Y
  have h3 := pow4_le h
  omega
theorem Shape.len {N : List Node} (h : Shape N) : N.length ≤ 73014444032 := by
  have h1 : (N.map num).Pairwise (· ≠ ·) := by
    rw [List.pairwise_map, List.pairwise_iff_getElem]
    intro i j hi hj hij e
    have ei : N[i]? = some N[i] := List.getElem?_eq_getElem hi
    have ej : N[j]? = some N[j] := List.getElem?_eq_getElem hj
    obtain ⟨a1, a2, a3, a4, a5⟩ := h.cell i _ ei
    obtain ⟨b1, b2, b3, b4, b5⟩ := h.cell j _ ej
    generalize N[i] = n at *
    generalize N[j] = m at *
    unfold num at e
    obtain ⟨c1, _⟩ := mort_bd n.lv n.X n.Y
    obtain ⟨d1, _⟩ := mort_bd m.lv m.X m.Y
    have hlv : n.lv = m.lv := by omega
    have hm : mort n.lv n.X n.Y = mort m.lv m.X m.Y := by omega
    rw [← hlv] at hm b3 b5
    obtain ⟨hx, hy⟩ := mort_inj n.lv _ _ _ _ a2 a3 a4 a5 b2 b3 b4 b5 hm
    have := h.one i j n m ei ej hlv hx hy
    omega
  have h2 := nodup_len (N.map num) (List.range 73014444032) h1 (fun x hx => by
    obtain ⟨n, hn, rfl⟩ := List.mem_map.1 hx
    obtain ⟨i, hi, rfl⟩ := List.getElem_of_mem hn
    exact List.mem_range.2 (num_lt (h.cell i _ (List.getElem?_eq_getElem hi)).1))
  rw [List.length_map, List.length_range] at h2
  exact h2

end Go.Proofs.Yteddkgpnklfppaa.Tc

namespace Go.Proofs.Yteddkgpnklfppaa
open Go.RowKit Go.Sort Go.Maps

def recArr (r : Tc.Rec) : Array Value := #[.int .i64 r.id, .int .i64 r.x, .int .i64 r.y, .int .i64 r.label]
def recsC (l : List Tc.Rec) : List Value := l.flatMap fun r => (recArr r).toList
abbrev NP := Tc.Node × Value
def nodeArr (n : Tc.Node) (v : Value) : Array Value := #[.int .i64 n.lv, .int .i64 n.X, .int .i64 n.Y, .int .i64 n.k0, .int .i64 n.k1, .int .i64 n.k2, .int .i64 n.k3, .int .i64 n.many, .bool n.split, v]
def nodesC (ps : List NP) : List Value := ps.flatMap fun p => (nodeArr p.1 p.2).toList
def treeArr (b : Nat) (vN : Value) (m : Nat) : Array Value := #[.int .i64 b, vN, .slice none 0 0, .map (some m)]
/-- the nodes of a tree in memory; O: the blocks of its rows -/
structure TrM (w : World) (t m b : Nat) (ps : List NP) (vN : Value) (O : Nat → Prop) : Prop where
  blk : Blk w t (treeArr b vN m) 61
  row : w.ownsRow (t + 1) 85 10 vN ps.length (nodesC ps)
  recs : ∀ (i : Nat) (p : NP), ps[i]? = some p → w.ownsRow (t + 1) 40 4 p.2 p.1.l.length (recsC p.1.l)
  sep : ∀ (i : Nat) (p : NP), ps[i]? = some p → ∀ q, p.2.ownBlock = some q → vN.ownBlock ≠ some q
  sep2 : ∀ (i j : Nat) (p u : NP), ps[i]? = some p → ps[j]? = some u → i ≠ j → ∀ q, p.2.ownBlock = some q → u.2.ownBlock ≠ some q
  inO : ∀ q, vN.ownBlock = some q → O q
  inO2 : ∀ (i : Nat) (p : NP), ps[i]? = some p → ∀ q, p.2.ownBlock = some q → O q
  bd : ∀ q, O q → t < q ∧ q < w.heap.size
def TrN (w : World) (t m b : Nat) (N : List Tc.Node) (O : Nat → Prop) : Prop := ∃ (ps : List NP) (vN : Value), ps.map (·.1) = N ∧ TrM w t m b ps vN O

theorem owns_keep {w w' : World} {base : Nat} {e : TypeId} {size : Nat} {v : Value} {n : Nat} {xs : List Value} {S : Nat → Prop} (h : w.ownsRow base e size v n xs) (hk : Keep S w w') (hS : ∀ q, v.ownBlock = some q → ¬ S q) : w'.ownsRow base e size v n xs := by
  refine ⟨h.1, ?_⟩
  rcases h.2 with h2 | ⟨g, cap, cur, hv, hbb, hg, r⟩
  · exact .inl h2
  · exact .inr ⟨g, cap, cur, hv, hbb, (hk.block g (lt_of_block hg) (hS g (by rw [hv]; rfl))).trans hg, r⟩
theorem owns_other {w w' : World} {base : Nat} {e : TypeId} {size : Nat} {v : Value} {n : Nat} {xs : List Value} {b : Nat} (h : w.ownsRow base e size v n xs) (hb : Touch b w w') (hne : v.ownBlock ≠ some b) : w'.ownsRow base e size v n xs := by
  refine ⟨h.1, ?_⟩
  rcases h.2 with h2 | ⟨g, cap, cur, hv, hbb, hg, r⟩
  · exact .inl h2
  · refine .inr ⟨g, cap, cur, hv, hbb, (hb.block g (lt_of_block hg) (fun e => hne (by rw [hv, e]; rfl))).trans hg, r⟩
theorem TrM.keep {w w' : World} {t m b : Nat} {ps : List NP} {vN : Value} {O S : Nat → Prop} (h : TrM w t m b ps vN O) (hk : Keep S w w') (hS : ∀ k, S k → k ≠ t ∧ ¬ O k) : TrM w' t m b ps vN O :=
  ⟨h.blk.keep hk (fun e => (hS _ e).1 rfl), owns_keep h.row hk (fun q hq hs => (hS q hs).2 (h.inO q hq)), fun i p hp => owns_keep (h.recs i p hp) hk (fun q hq hs => (hS q hs).2 (h.inO2 i p hp q hq)),
    h.sep, h.sep2, h.inO, h.inO2, fun q hq => ⟨(h.bd q hq).1, Nat.lt_of_lt_of_le (h.bd q hq).2 hk.size⟩⟩
theorem TrM.ext {w w' : World} {t m b : Nat} {ps : List NP} {vN : Value} {O : Nat → Prop} (h : TrM w t m b ps vN O) (hb : Below w.heap.size w w') : TrM w' t m b ps vN O :=
  h.keep (S := fun _ => False) (Keep.of_below hb) (fun _ e => e.elim)
theorem TrN.keep {w w' : World} {t m b : Nat} {N : List Tc.Node} {O S : Nat → Prop} (h : TrN w t m b N O) (hk : Keep S w w') (hS : ∀ k, S k → k ≠ t ∧ ¬ O k) : TrN w' t m b N O := by
  obtain ⟨ps, vN, e, h1⟩ := h
  exact ⟨ps, vN, e, h1.keep hk hS⟩
theorem TrN.ext {w w' : World} {t m b : Nat} {N : List Tc.Node} {O : Nat → Prop} (h : TrN w t m b N O) (hb : Below w.heap.size w w') : TrN w' t m b N O :=
  h.keep (S := fun _ => False) (Keep.of_below hb) (fun _ e => e.elim)
/-- the tree's own blocks -/
def TrS (t : Nat) (O : Nat → Prop) : Nat → Prop := fun k => k = t ∨ O k
theorem Keep.chain {t : Nat} {O O1 : Nat → Prop} {w w1 w2 : World} (h : Keep (TrS t O) w w1) (k : Keep (TrS t O1) w1 w2) (hO : ∀ q, O1 q → O q ∨ w.heap.size ≤ q) : Keep (TrS t O) w w2 :=
  ⟨k.os.trans h.os, k.tape.trans h.tape, k.output.trans h.output, Nat.le_trans h.size k.size, fun i hi hn => (k.block i (Nat.lt_of_lt_of_le hi h.size) (fun e => by
    rcases e with e | e
    · exact hn (.inl e)
    · rcases hO i e with e | e
      · exact hn (.inr e)
      · omega)).trans (h.block i hi hn)⟩

theorem nodesC_len (ps : List NP) : (nodesC ps).length = ps.length * 10 := by
  induction ps with
  | nil => rfl
  | cons p ps ih =>
    have e : nodesC (p :: ps) = (nodeArr p.1 p.2).toList ++ nodesC ps := rfl
    rw [e, List.length_append, ih, List.length_cons]
    show 10 + _ = _
    omega
theorem nodesC_app (a b : List NP) : nodesC (a ++ b) = nodesC a ++ nodesC b := by unfold nodesC; simp
theorem nodesC_snoc (ps : List NP) (n : Tc.Node) (v : Value) : nodesC (ps ++ [(n, v)]) = nodesC ps ++ (nodeArr n v).toList := by unfold nodesC; simp
theorem nodesC_get : ∀ (ps : List NP) (i j : Nat) (p : NP), ps[i]? = some p → j < 10 → (nodesC ps)[i * 10 + j]? = (nodeArr p.1 p.2)[j]?
  | [], i, j, p, h, _ => by simp at h
  | q :: ps, 0, j, p, h, hj => by
    simp only [List.getElem?_cons_zero, Option.some.injEq] at h
    subst h
    have e : nodesC (q :: ps) = (nodeArr q.1 q.2).toList ++ nodesC ps := rfl
    rw [e, Nat.zero_mul, Nat.zero_add, List.getElem?_append_left (by show j < 10; exact hj), Array.getElem?_toList]
  | q :: ps, i + 1, j, p, h, hj => by
    simp only [List.getElem?_cons_succ] at h
    have e : nodesC (q :: ps) = (nodeArr q.1 q.2).toList ++ nodesC ps := rfl
    have h10 : (nodeArr q.1 q.2).toList.length = 10 := rfl
    rw [e, List.getElem?_append_right (by rw [h10]; omega), h10, show (i + 1) * 10 + j - 10 = i * 10 + j by omega]
    exact nodesC_get ps i j p h hj
theorem nodesC_set : ∀ (ps : List NP) (i j : Nat) (p p' : NP) (u : Value), ps[i]? = some p → j < 10 → nodeArr p'.1 p'.2 = (nodeArr p.1 p.2).setIfInBounds j u → nodesC (ps.set i p') = (nodesC ps).set (i * 10 + j) u
  | [], i, j, p, p', u, h, _, _ => by simp at h
  | q :: ps, 0, j, p, p', u, h, hj, hu => by
    simp only [List.getElem?_cons_zero, Option.some.injEq] at h
    subst h
    have e : nodesC (q :: ps) = (nodeArr q.1 q.2).toList ++ nodesC ps := rfl
    have e2 : nodesC (p' :: ps) = (nodeArr p'.1 p'.2).toList ++ nodesC ps := rfl
    rw [List.set_cons_zero, e, e2, Nat.zero_mul, Nat.zero_add, List.set_append_left _ _ (by show j < 10; exact hj), hu, Array.toList_setIfInBounds]
  | q :: ps, i + 1, j, p, p', u, h, hj, hu => by
    simp only [List.getElem?_cons_succ] at h
    have e : nodesC (q :: ps) = (nodeArr q.1 q.2).toList ++ nodesC ps := rfl
    have e2 : nodesC (q :: ps.set i p') = (nodeArr q.1 q.2).toList ++ nodesC (ps.set i p') := rfl
    have h10 : (nodeArr q.1 q.2).toList.length = 10 := rfl
    rw [List.set_cons_succ, e, e2, List.set_append_right _ _ (by rw [h10]; omega), h10, show (i + 1) * 10 + j - 10 = i * 10 + j by omega, nodesC_set ps i j p p' u h hj hu]
theorem recsC_snoc (l : List Tc.Rec) (r : Tc.Rec) : recsC (l ++ [r]) = recsC l ++ (recArr r).toList := by unfold recsC; simp
theorem recsC_get : ∀ (l : List Tc.Rec) (i j : Nat) (r : Tc.Rec), l[i]? = some r → j < 4 → (recsC l)[i * 4 + j]? = (recArr r)[j]?
  | [], i, j, p, h, _ => by simp at h
  | q :: ps, 0, j, p, h, hj => by
    simp only [List.getElem?_cons_zero, Option.some.injEq] at h
    subst h
    have e : recsC (q :: ps) = (recArr q).toList ++ recsC ps := rfl
    rw [e, Nat.zero_mul, Nat.zero_add, List.getElem?_append_left (by show j < 4; exact hj), Array.getElem?_toList]
  | q :: ps, i + 1, j, p, h, hj => by
    simp only [List.getElem?_cons_succ] at h
    have e : recsC (q :: ps) = (recArr q).toList ++ recsC ps := rfl
    have h10 : (recArr q).toList.length = 4 := rfl
    rw [e, List.getElem?_append_right (by rw [h10]; omega), h10, show (i + 1) * 4 + j - 4 = i * 4 + j by omega]
    exact recsC_get ps i j p h hj

/-- an owned row that has elements: its block -/
theorem owns_block {w : World} {base : Nat} {e : TypeId} {size : Nat} {v : Value} {n : Nat} {xs : List Value} (h : w.ownsRow base e size v n xs) (hn : 0 < n) :
    ∃ g cap, v = .slice (some ⟨g, 0, none⟩) n cap ∧ base ≤ g ∧ g < w.heap.size ∧ (∀ j u, xs[j]? = some u → w.cell? ⟨g, j, none⟩ = some u) ∧ (∀ o, w.frozen? ⟨g, o, none⟩ = false) := by
  rcases h.2 with ⟨_, h2⟩ | ⟨g, cap, cur, hv, hbb, hg, h3, h4, h5, h6⟩
  · omega
  · refine ⟨g, cap, hv, hbb, lt_of_block hg, fun j u hj => ?_, fun o => ?_⟩
    · have := h.cells (g := g) (by rw [hv]; rfl) j u hj
      have e2 : (⟨g, 0, none⟩ : Addr).add j = ⟨g, j, none⟩ := by unfold Addr.add; split <;> simp_all
      rw [e2] at this
      exact this
    · simp [World.frozen?, hg]
/-- a store into an owned row -/
theorem owns_set {w : World} {base : Nat} {e : TypeId} {size g cap : Nat} {n : Nat} {xs : List Value} (h : w.ownsRow base e size (.slice (some ⟨g, 0, none⟩) n cap) n xs) {i : Nat} (_hi : i < xs.length) (u : Value) : (w.setCell ⟨g, i, none⟩ u).ownsRow base e size (.slice (some ⟨g, 0, none⟩) n cap) n (xs.set i u) := by
  refine ⟨by rw [List.length_set]; exact h.1, ?_⟩
  rcases h.2 with ⟨h2, _⟩ | ⟨g', cap', cur, hv, hbb, hg, h3, h4, h5, h6⟩
  · cases h2
  · cases hv
    have hb : Blk w g cur e := hg
    have hb' := hb.set i u
    refine .inr ⟨g, cap, _, rfl, hbb, hb', h3, h4, by simpa using h5, ?_⟩
    rw [Array.toList_setIfInBounds, List.take_set, h6]
theorem TrM.nodes {w : World} {t m b : Nat} {ps : List NP} {vN : Value} {O : Nat → Prop} (h : TrM w t m b ps vN O) (hn : 0 < ps.length) :
    ∃ g cap, vN = .slice (some ⟨g, 0, none⟩) ps.length cap ∧ t < g ∧ g < w.heap.size ∧ (∀ (i : Nat) (p : NP), ps[i]? = some p → ∀ j u, (nodeArr p.1 p.2)[j]? = some u → w.cell? ⟨g, i * 10 + j, none⟩ = some u) ∧ (∀ o, w.frozen? ⟨g, o, none⟩ = false) := by
  obtain ⟨g, cap, h1, h2, h3, h4, h5⟩ := owns_block h.row hn
  refine ⟨g, cap, h1, h2, h3, fun i p hp j u hj => h4 _ u ?_, h5⟩
  have hj10 : j < 10 := (Array.getElem?_eq_some_iff.1 hj).1
  rw [nodesC_get ps i j p hp hj10]
  exact hj
/-- a node's number or mark is stored -/
theorem TrM.setN {w : World} {t m b : Nat} {ps : List NP} {O : Nat → Prop} {g cap : Nat} (h : TrM w t m b ps (.slice (some ⟨g, 0, none⟩) ps.length cap) O) {a j : Nat} {p : NP} {n' : Tc.Node} {u : Value} (ha : ps[a]? = some p) (hj : j < 10) (hl : n'.l = p.1.l) (hu : nodeArr n' p.2 = (nodeArr p.1 p.2).setIfInBounds j u) :
    TrM (w.setCell ⟨g, a * 10 + j, none⟩ u) t m b (ps.set a (n', p.2)) (.slice (some ⟨g, 0, none⟩) ps.length cap) O := by
  have hlt : a < ps.length := (List.getElem?_eq_some_iff.1 ha).1
  have ho := h.inO g rfl
  have ht := h.bd g ho
  have tch : Touch g w (w.setCell ⟨g, a * 10 + j, none⟩ u) := (Touch.refl g w).setCell _ _
  have back : ∀ (i : Nat) (q : NP), (ps.set a (n', p.2))[i]? = some q → ∃ q0, ps[i]? = some q0 ∧ q.2 = q0.2 ∧ q.1.l = q0.1.l := fun i q hq => by
    rw [List.getElem?_set] at hq
    by_cases e : a = i
    · subst e
      rw [if_pos rfl] at hq
      simp only [hlt, if_true, Option.some.injEq] at hq
      subst hq
      exact ⟨p, ha, rfl, hl⟩
    · rw [if_neg e] at hq
      exact ⟨q, hq, rfl, rfl⟩
  refine ⟨h.blk.touch tch (by omega), ?_, fun i q hq => ?_, fun i q hq => ?_, fun i k q r hq hr hik => ?_, h.inO, fun i q hq => ?_, fun q hq => ⟨(h.bd q hq).1, by rw [World.size_setCell]; exact (h.bd q hq).2⟩⟩
  · rw [List.length_set, nodesC_set ps a j p (n', p.2) u ha hj hu]
    exact owns_set h.row (by rw [nodesC_len]; omega) u
  · obtain ⟨q0, h1, h2, h3⟩ := back i q hq
    rw [h2, h3]
    exact owns_other (h.recs i q0 h1) tch (fun e => h.sep i q0 h1 g e rfl)
  · obtain ⟨q0, h1, h2, h3⟩ := back i q hq
    rw [h2]; exact h.sep i q0 h1
  · obtain ⟨q0, h1, h2, _⟩ := back i q hq
    obtain ⟨r0, k1, k2, _⟩ := back k r hr
    rw [h2, k2]; exact h.sep2 i k q0 r0 h1 k1 hik
  · obtain ⟨q0, h1, h2, _⟩ := back i q hq
    rw [h2]; exact h.inO2 i q0 h1

end Go.Proofs.Yteddkgpnklfppaa

namespace Go.Proofs.Yteddkgpnklfppaa
open Go.RowKit Go.Sort Go.Maps

theorem owns_shape {w : World} {base : Nat} {e : TypeId} {size : Nat} {v : Value} {n : Nat} {xs : List Value} (h : w.ownsRow base e size v n xs) : ∃ p c, v = .slice p n c := by
  rcases h.2 with ⟨rfl, rfl⟩ | ⟨g, cap, cur, rfl, _⟩
  · exact ⟨_, _, rfl⟩
  · exact ⟨_, _, rfl⟩
theorem owns_grown {w w' : World} {row : Option Nat} {base : Nat} {e : TypeId} {size : Nat} {v : Value} {n : Nat} {xs : List Value} (h : w.ownsRow base e size v n xs) (hg : w.grownBy w' row) (hn : ∀ q, v.ownBlock = some q → row ≠ some q) : w'.ownsRow base e size v n xs := by
  refine ⟨h.1, ?_⟩
  rcases h.2 with h2 | ⟨g, cap, cur, hv, hbb, hgg, r⟩
  · exact .inl h2
  · exact .inr ⟨g, cap, cur, hv, hbb, (hg.block g (lt_of_block hgg) (fun e => hn g (by rw [hv]; rfl) e.symm)).trans hgg, r⟩
/-- a node more -/
theorem TrM.push {w wx wy : World} {t m b g cap : Nat} {ps : List NP} {vN : Value} {O : Nat → Prop} {n : Tc.Node} (h : TrM w t m b ps vN O) (hb : Below w.heap.size w wx)
    (hown : wy.ownsRow (t + 1) 85 10 (.slice (some ⟨g, 0, none⟩) (ps.length + 1) cap) (ps.length + 1) (nodesC ps ++ (nodeArr n (.slice none 0 0)).toList)) (hg : wx.grownBy wy vN.ownBlock) (hat : vN.ownBlock = some g ∨ g = wx.heap.size) (hlt : g < wy.heap.size) (hn : n.l = []) :
    TrM (wy.setCell ⟨t, 1, none⟩ (.slice (some ⟨g, 0, none⟩) (ps.length + 1) cap)) t m b (ps ++ [(n, .slice none 0 0)]) (.slice (some ⟨g, 0, none⟩) (ps.length + 1) cap) (fun k => O k ∨ k = g) ∧ (O g ∨ w.heap.size ≤ g) ∧ Keep (TrS t O) w (wy.setCell ⟨t, 1, none⟩ (.slice (some ⟨g, 0, none⟩) (ps.length + 1) cap)) := by
  have hx := h.ext hb
  have hgO : O g ∨ w.heap.size ≤ g := by
    rcases hat with e | e
    · exact .inl (h.inO g e)
    · exact .inr (by rw [e]; exact hb.size)
  have htg : t < g := by
    rcases hgO with e | e
    · exact (h.bd g e).1
    · have := h.blk.lt; omega
  have tch : Touch t wy (wy.setCell ⟨t, 1, none⟩ (.slice (some ⟨g, 0, none⟩) (ps.length + 1) cap)) := (Touch.refl t wy).setCell _ _
  have old : ∀ (i : Nat) (p : NP), (ps ++ [(n, Value.slice none 0 0)])[i]? = some p → ps[i]? = some p ∨ p = (n, .slice none 0 0) := fun i p hp => by
    rcases Nat.lt_or_ge i ps.length with hl | hl
    · rw [List.getElem?_append_left hl] at hp; exact .inl hp
    · rw [List.getElem?_append_right hl] at hp
      cases hi : i - ps.length with
      | zero => rw [hi] at hp; simp at hp; exact .inr hp.symm
      | succ k => rw [hi] at hp; simp at hp
  have far : ∀ (i : Nat) (p : NP), ps[i]? = some p → ∀ q, p.2.ownBlock = some q → q ≠ g := fun i p hp q hq e => by
    subst e
    rcases hat with e2 | e2
    · exact h.sep i p hp q hq e2
    · have := (h.bd q (h.inO2 i p hp q hq)).2
      have := hb.size
      omega
  refine ⟨⟨?_, ?_, fun i p hp => ?_, fun i p hp q hq => ?_, fun i j p u hp hu hij q hq => ?_, fun q hq => ?_, fun i p hp q hq => ?_, fun q hq => ?_⟩, hgO, ?_⟩
  · have h1 := (hx.blk.grown hg (fun e => by have := (h.bd t (h.inO t e)).1; omega)).set 1 (.slice (some ⟨g, 0, none⟩) (ps.length + 1) cap)
    exact h1
  · rw [List.length_append, List.length_singleton, nodesC_snoc]
    exact owns_other hown tch (fun e => by
      have : g = t := Option.some.inj e
      omega)
  · rcases old i p hp with hp | rfl
    · exact owns_other (owns_grown (hx.recs i p hp) hg (fun q hq e => h.sep i p hp q hq e)) tch (fun e => by have := (h.bd t (h.inO2 i p hp t e)).1; omega)
    · rw [hn]; exact World.ownsRow_nil _ _ _ _
  · rcases old i p hp with hp | rfl
    · intro e
      exact far i p hp q hq (Option.some.inj e).symm
    · cases hq
  · rcases old i p hp with hp' | rfl
    · rcases old j u hu with hu' | rfl
      · exact h.sep2 i j p u hp' hu' hij q hq
      · intro e; cases e
    · cases hq
  · exact .inr (Option.some.inj hq).symm
  · rcases old i p hp with hp' | rfl
    · exact .inl (h.inO2 i p hp' q hq)
    · cases hq
  · rw [World.size_setCell]
    rcases hq with hq | rfl
    · have h2 := h.bd q hq
      have := hb.size
      have := hg.size
      exact ⟨h2.1, by omega⟩
    · exact ⟨htg, hlt⟩
  · exact (((Keep.of_below (S := TrS t O) hb).trans ((Keep.of_grown (S := TrS t O) hg (fun k hk => .inr (h.inO k hk))))).trans (Keep.of_touch tch (.inl rfl)))
theorem Try.infoNode : (Try.prog.info? 85).map (fun i => (i.zero, i.size, i.bytes)) = some (some (.agg (nodeArr ⟨0, 0, 0, 0, 0, 0, 0, 0, false, []⟩ (.slice none 0 0))), 10, 96) := by kernel_rfl
theorem Try.infoRec : (Try.prog.info? 40).map (fun i => (i.zero, i.size, i.bytes)) = some (some (.agg (recArr ⟨0, 0, 0, 0⟩)), 4, 32) := by kernel_rfl
theorem nodeS {w : World} {b : Nat} {n : Tc.Node} {v : Value} {t : TypeId} (h : Blk w b (nodeArr n v) t) : w.cell? ⟨b, 0, none⟩ = some (.int .i64 n.lv) ∧ w.cell? ⟨b, 1, none⟩ = some (.int .i64 n.X) ∧ w.cell? ⟨b, 1 + 1, none⟩ = some (.int .i64 n.Y) ∧ w.cell? ⟨b, 1 + 1 + 1, none⟩ = some (.int .i64 n.k0) ∧
    w.cell? ⟨b, 1 + 1 + 1 + 1, none⟩ = some (.int .i64 n.k1) ∧ w.cell? ⟨b, 1 + 1 + 1 + 1 + 1, none⟩ = some (.int .i64 n.k2) ∧ w.cell? ⟨b, 1 + 1 + 1 + 1 + 1 + 1, none⟩ = some (.int .i64 n.k3) ∧ w.cell? ⟨b, 1 + 1 + 1 + 1 + 1 + 1 + 1, none⟩ = some (.int .i64 n.many) ∧ w.cell? ⟨b, 1 + 1 + 1 + 1 + 1 + 1 + 1 + 1, none⟩ = some (.bool n.split) ∧ w.cell? ⟨b, 1 + 1 + 1 + 1 + 1 + 1 + 1 + 1 + 1, none⟩ = some v :=
  ⟨h.cell 0 rfl, h.cell 1 rfl, h.cell 2 rfl, h.cell 3 rfl, h.cell 4 rfl, h.cell 5 rfl, h.cell 6 rfl, h.cell 7 rfl, h.cell 8 rfl, h.cell 9 rfl⟩
theorem nodeArr_one (n : Tc.Node) (v : Value) (hv : v.oneCell' = true) : (nodeArr n v).all (·.oneCell') = true := by
  unfold nodeArr
  rw [← Array.all_toList]
  simp only [List.all_cons, List.all_nil, hv, Bool.and_true]
  rfl
theorem tmade_any {w : World} {t m b : Nat} {ps : List NP} {vN : Value} {O : Nat → Prop} (h : TrM w t m b ps vN O) (hn : 0 < ps.length) (hl : ps.length ≤ 73014444132) : Calls Try.prog 22 #[.pointer (some ⟨t, 0, none⟩)] w fun e w' => e = .returned (.bool true) ∧ w = w' := by
  obtain ⟨p, c, rfl⟩ := owns_shape h.row
  have c1 : w.cell? ⟨t, 1, none⟩ = some (.slice p ps.length c) := h.blk.cell 1 rfl
  have hn2 : (0 : Int) < ps.length := by omega
  clear h
  go_enter Try.func22, Try.ntmps22
  go_wp2_with fail
  go_ret
  exact ⟨rfl, rfl⟩
def LeafPost (w : World) (t m b : Nat) (ps : List NP) (O : Nat → Prop) (n : Tc.Node) (w' : World) : Prop :=
  ∃ vN' O', TrM w' t m b (ps ++ [(n, .slice none 0 0)]) vN' O' ∧ (∀ q, O' q → O q ∨ w.heap.size ≤ q) ∧ Keep (TrS t O) w w'
set_option maxRecDepth 100000 in
set_option maxHeartbeats 2000000 in
theorem tleaf_any {w : World} {t m b : Nat} {ps : List NP} {vN : Value} {O : Nat → Prop} (h : TrM w t m b ps vN O) (hl : ps.length ≤ 73014444132) (lv : Nat) (x y : Int) :
    Calls Try.prog 15 #[.pointer (some ⟨t, 0, none⟩), cellV lv x y] w fun e w' => e = .returned (.int .i64 ps.length) ∧ LeafPost w t m b ps O (Tc.newLeaf lv x y) w' := by
  obtain ⟨i0, hinf, hiz, hisz, hiby⟩ := info_parts Try.infoNode
  have H0 := hid h
  obtain ⟨vp, vc, rfl⟩ := owns_shape h.row
  have z1 := balloc w (.cells #[.int .i64 lv, .int .i64 x, .int .i64 y] 24)
  have C1 := hid (Blk.new w #[.int .i64 lv, .int .i64 x, .int .i64 y] 24)
  have z2 := balloc (w.alloc (.cells #[.int .i64 lv, .int .i64 x, .int .i64 y] 24)) (.cells (nodeArr (Tc.newLeaf lv x y) (.slice none 0 0)) 85)
  have Q2 := hid (bthen z1 z2)
  have T2 := hid (h.ext Q2.out)
  have N2 := hid (Blk.newAt (w := w.alloc (.cells #[.int .i64 lv, .int .i64 x, .int .i64 y] 24)) (k := w.heap.size + 1) (by simp) (nodeArr (Tc.newLeaf lv x y) (.slice none 0 0)) 85)
  have c2 := T2.out.blk.cell 2 (v := .slice none 0 0) rfl
  have hna : nodeArr (Tc.newLeaf lv x y) (.slice none 0 0) = #[.int .i64 lv, .int .i64 x, .int .i64 y, .int .i64 (-1), .int .i64 (-1), .int .i64 (-1), .int .i64 (-1), .int .i64 0, .bool false, .slice none 0 0] := rfl
  have hna' := hid hna
  rw [hna] at Q2 T2 N2 c2
  have ht0 := T2.out.blk.lt
  clear h z1 z2 hna
  unfold cellV
  go_enter Try.func15, Try.ntmps15
  go_wp2_with fail
  clear c2
  generalize hwx : (w.alloc (.cells #[.int .i64 lv, .int .i64 x, .int .i64 y] 24)).alloc (.cells #[.int .i64 lv, .int .i64 x, .int .i64 y, .int .i64 (-1), .int .i64 (-1), .int .i64 (-1), .int .i64 (-1), .int .i64 0, .bool false, .slice none 0 0] 85) = wx at *
  clear hwx
  obtain ⟨kn, hkn⟩ : ∃ k, k = w.heap.size + 1 := ⟨_, rfl⟩
  rw [← hkn] at N2 ⊢
  have hkn' := hid hkn
  have hkt : kn ≠ t := by have := H0.out.blk.lt; omega
  clear hkn
  have C2 := hid T2.out.blk
  have c1 : wx.cell? ⟨t, 1, none⟩ = some (.slice vp ps.length vc) := C2.out.cell 1 rfl
  have c1' : wx.drew.cell? ⟨t, 1, none⟩ = some (.slice vp ps.length vc) := c1
  have S2 := nodeS (n := Tc.newLeaf lv x y) (v := .slice none 0 0) N2.out
  have S2' := nodeS (n := Tc.newLeaf lv x y) (v := .slice none 0 0) (Blk.drew N2.out)
  have nlen : ps.length + 1 ≤ maxLen := by unfold maxLen; omega
  have nby : (ps.length + 1) * 96 ≤ 140737488355328 := by omega
  have hal := hid ((T2.out.ext (Below.refl _ _).drew).row.alloc (.cells (nodeArr (Tc.newLeaf lv x y) (.slice none 0 0)) 85))
  have hc1 := hid (cells_new wx.drew (nodeArr (Tc.newLeaf lv x y) (.slice none 0 0)).toList 85 (k := wx.heap.size) rfl)
  have hone : Hid (∀ u ∈ (nodeArr (Tc.newLeaf lv x y) (.slice none 0 0)).toList, u.oneCell' = true) := hid (fun u hu => (Array.all_eq_true_iff_forall_mem.1 (nodeArr_one _ _ rfl)) u (by simpa using hu))
  have hwy := hid ((Below.refl wx.heap.size wx).drew.trans (balloc wx.drew (.cells (nodeArr (Tc.newLeaf lv x y) (.slice none 0 0)) 85)))
  have hba := hid (show t + 1 ≤ (wx.drew.alloc (.cells (nodeArr (Tc.newLeaf lv x y) (.slice none 0 0)) 85)).heap.size by rw [World.size_alloc]; exact Nat.le_succ_of_le C2.out.lt)
  have Q3 := hid (bthen Q2.out hwy.out)
  have C4 := hid (C2.out.ext hwy.out)
  have N4 := hid (N2.out.ext hwy.out)
  go_region_law (
    (refine step_append_lies _ rfl _ _ 58 rfl (t + 1) 85 i0 _ 10 96 Try.underlying58 hinf hiz hisz hiby rfl (by decide) _ _ _ rfl hal.out ⟨wx.heap.size, 0, none⟩ 1 1 (nodeArr (Tc.newLeaf lv x y) (.slice none 0 0)).toList rfl rfl hc1.out hone.out (by decide) nlen nby hba.out _ rfl ?_
     intro g5 cap5 w5 hown5 hgrow hat5 hlt5
     have hfin := hid (H0.out.push Q3.out hown5 hgrow hat5 hlt5 rfl)
     have C5 := C4.out.grown hgrow (own_ne hal.out (Nat.lt_succ_self _))
     have cc5 : w5.cell? ⟨t, 1, none⟩ = some (.slice vp ps.length vc) := C5.cell 1 rfl
     have cf5 := C5.free
     have D5 := hid (C5.set 1 (.slice (some ⟨g5, 0, none⟩) (ps.length + 1) cap5))
     have cd5 : (w5.setCell ⟨t, 1, none⟩ (.slice (some ⟨g5, 0, none⟩) (ps.length + 1) cap5)).cell? ⟨t, 1, none⟩ = some (.slice (some ⟨g5, 0, none⟩) (ps.length + 1) cap5) := D5.out.cell 1 rfl
     clear hown5 hgrow hat5 hlt5 C5))
  all_goals
    go_wp2_with fail
    go_ret
    exact ⟨ret_int (by first | rfl | omega), _, _, hfin.out.1, fun q hq => by
      rcases hq with hq | rfl
      · exact .inl hq
      · exact hfin.out.2.1, hfin.out.2.2⟩

end Go.Proofs.Yteddkgpnklfppaa

namespace Go.Proofs.Yteddkgpnklfppaa
open Go.RowKit Go.Sort Go.Maps

theorem which_eq (lv : Nat) (hl : lv < 16) (r : Tc.Rec) : ((Tc.which lv r : Nat) : Int) = r.x / 2 ^ (15 - lv) % 2 + r.y / 2 ^ (15 - lv) % 2 * 2 := by
  unfold Tc.which Tc.sh
  rw [show 16 - (lv + 1) = 15 - lv by omega]
  generalize r.x / 2 ^ (15 - lv) = u
  generalize r.y / 2 ^ (15 - lv) = v
  omega
set_option maxRecDepth 100000 in
set_option maxHeartbeats 2000000 in
theorem tkid_any {w : World} {t m b : Nat} {ps : List NP} {vN : Value} {O : Nat → Prop} (h : TrM w t m b ps vN O) (hl : ps.length ≤ 73014444132) {a : Nat} {p : NP} (ha : ps[a]? = some p) (hlv : p.1.lv < 16) {r : Tc.Rec} (hr : r.fit) :
    Calls Try.prog 37 #[.pointer (some ⟨t, 0, none⟩), .int .i64 a, pointV r.x r.y] w fun e w' => e = .returned (.int .i64 (Tc.which p.1.lv r : Nat)) ∧ Below w.heap.size w w' := by
  have hlt : a < ps.length := (List.getElem?_eq_some_iff.1 ha).1
  have hof0 := tOf_yes (k := p.1.lv + 1) (j := 15 - p.1.lv) (by omega) (fits_of hr)
  rw [show ((p.1.lv + 1 : Nat) : Int) = (p.1.lv : Int) + 1 by omega] at hof0
  have hof := hid hof0
  clear hof0
  have hwh := hid (which_eq p.1.lv hlv r)
  obtain ⟨d0, d1⟩ := div_bd (15 - p.1.lv) hr.1 hr.2.1
  obtain ⟨d2, d3⟩ := div_bd (15 - p.1.lv) hr.2.2.1 hr.2.2.2
  have z1 := balloc w (.cells #[.int .i64 r.x, .int .i64 r.y] 26)
  have T1 := h.ext z1
  obtain ⟨g, cap, rfl, htg, hgl, hcell, hfr⟩ := T1.nodes (by omega)
  have Q1 := hid z1
  have P1 := hid (Blk.new w #[.int .i64 r.x, .int .i64 r.y] 26)
  have C1 := hid T1.blk
  have n0 := hid (hcell a p ha 0 (.int .i64 p.1.lv) rfl)
  have tl := T1.blk.lt
  clear z1 T1 hcell hfr h hr
  unfold pointV cellV at *
  generalize r.x / 2 ^ (15 - p.1.lv) = cx at *
  generalize r.y / 2 ^ (15 - p.1.lv) = cy at *
  have hlv1 : ((p.1.lv : Nat) : Int) ≤ 15 := by omega
  have ha1 : (a : Int) < ps.length := by omega
  go_enter Try.func37, Try.ntmps37
  go_wp2_with fail
  generalize hw1 : w.alloc (.cells #[.int .i64 r.x, .int .i64 r.y] 26) = w1 at *
  clear hw1
  generalize hbk : w.heap.size = kb at *
  have hks : kb ≤ w1.heap.size := hbk ▸ Q1.out.size
  have F0 : w1.cell? ⟨kb, 0, none⟩ = some (.int .i64 r.x) ∧ w1.cell? ⟨kb, 1, none⟩ = some (.int .i64 r.y) ∧ w1.cell? ⟨t, 1, none⟩ = some (.slice (some ⟨g, 0, none⟩) ps.length cap) ∧ w1.cell? ⟨g, a * 10, none⟩ = some (.int .i64 p.1.lv) := ⟨P1.out.cell 0 rfl, P1.out.cell 1 rfl, C1.out.cell 1 rfl, n0.out⟩
  have F1 : w1.drew.cell? ⟨kb, 0, none⟩ = some (.int .i64 r.x) ∧ w1.drew.cell? ⟨kb, 1, none⟩ = some (.int .i64 r.y) ∧ w1.drew.cell? ⟨t, 1, none⟩ = some (.slice (some ⟨g, 0, none⟩) ps.length cap) ∧ w1.drew.cell? ⟨g, a * 10, none⟩ = some (.int .i64 p.1.lv) := ⟨P1.out.cell 0 rfl, P1.out.cell 1 rfl, C1.out.cell 1 rfl, n0.out⟩
  have hwr : IntKind.i64.wrap ((p.1.lv : Int) + 1) = (p.1.lv : Int) + 1 := IntWalk.i64_in _ (by omega)
  go_region_held3 (fun w' => w'.cell? ⟨kb, 0, none⟩ = some (.int .i64 r.x) ∧ w'.cell? ⟨kb, 1, none⟩ = some (.int .i64 r.y) ∧ w'.cell? ⟨t, 1, none⟩ = some (.slice (some ⟨g, 0, none⟩) ps.length cap) ∧ w'.cell? ⟨g, a * 10, none⟩ = some (.int .i64 p.1.lv)) (first | with_reducible assumption | go_keep) (first
    | ((go_at_call 34
        with_reducible refine (hof.out w1.drew).mono ?_
        rintro en w6 ⟨rfl, hb⟩
        have P6 := hid ((Blk.drew P1.out).ext hb)
        have C6 := hid ((Blk.drew C1.out).ext hb)
        have Q6 := hid (Q1.out.drew.trans (hb.mono hks))
        have F6 : w6.cell? ⟨kb, 0, none⟩ = some (.int .i64 r.x) ∧ w6.cell? ⟨kb, 1, none⟩ = some (.int .i64 r.y) ∧ w6.cell? ⟨t, 1, none⟩ = some (.slice (some ⟨g, 0, none⟩) ps.length cap) ∧ w6.cell? ⟨g, a * 10, none⟩ = some (.int .i64 p.1.lv) := ⟨P6.out.cell 0 rfl, P6.out.cell 1 rfl, C6.out.cell 1 rfl, (hb.cell (p := ⟨g, a * 10, none⟩) hgl).trans n0.out⟩
        clear hb F1 F0))
    | ((go_at_call 34
        with_reducible refine (hof.out (w1.alloc (.cells #[.int .i64 0, .int .i64 0, .int .i64 0] 24)).drew).mono ?_
        rintro en w7 ⟨rfl, hb⟩
        have z := balloc w1 (.cells #[.int .i64 0, .int .i64 0, .int .i64 0] 24)
        have P7 := hid ((Blk.drew (P1.out.ext z)).ext hb)
        have C7 := hid ((Blk.drew (C1.out.ext z)).ext hb)
        have Q7 := hid (((Q1.out.trans (z.mono hks)).drew).trans (hb.mono (Nat.le_trans hks z.size)))
        have K7 := hid ((Blk.drew (Blk.new w1 #[.int .i64 0, .int .i64 0, .int .i64 0] 24)).ext hb)
        have F7 : w7.cell? ⟨kb, 0, none⟩ = some (.int .i64 r.x) ∧ w7.cell? ⟨kb, 1, none⟩ = some (.int .i64 r.y) ∧ w7.cell? ⟨t, 1, none⟩ = some (.slice (some ⟨g, 0, none⟩) ps.length cap) ∧ w7.cell? ⟨g, a * 10, none⟩ = some (.int .i64 p.1.lv) := ⟨P7.out.cell 0 rfl, P7.out.cell 1 rfl, C7.out.cell 1 rfl, (hb.cell (p := ⟨g, a * 10, none⟩) (Nat.lt_of_lt_of_le hgl z.size)).trans ((z.cell (p := ⟨g, a * 10, none⟩) hgl).trans n0.out)⟩
        obtain ⟨k0, k1, k2, kf, kz⟩ := K7.out.three
        have nk1 : w1.heap.size ≠ kb := by have := P1.out.lt; omega
        have nk2 : w1.heap.size ≠ t := by omega
        have nk3 : w1.heap.size ≠ g := by omega
        have nk4 : kb ≠ w1.heap.size := Ne.symm nk1
        have nk5 : t ≠ w1.heap.size := Ne.symm nk2
        have nk6 : g ≠ w1.heap.size := Ne.symm nk3
        clear hb z F1 F0)))
  · go_wp2_with fail
    go_ret
    refine ⟨ret_int ?_, ?_⟩
    · rw [hwh.out]
    · subst hbk; exact bthen Q6.out (balloc _ _)
  · go_wp2_with fail
    go_ret
    refine ⟨ret_int ?_, ?_⟩
    · rw [hwh.out]
    · subst hbk; exact bset (bset (bset Q7.out hks _) hks _) hks _
theorem tchild_any {lv : Nat} {X Y : Int} (hl : lv < 16) (h1 : 0 ≤ X) (h2 : X < 2 ^ lv) (h3 : 0 ≤ Y) (h4 : Y < 2 ^ lv) {i : Nat} (hi : i < 4) (w : World) :
    Calls Try.prog 53 #[cellV lv X Y, .int .i64 i] w fun e w' => e = .returned (.tuple #[cellV ((lv + 1 : Nat) : Int) (2 * X + (i % 2 : Nat)) (2 * Y + (i / 2 : Nat)), .bool true]) ∧ Below w.heap.size w w' := by
  have hr := hid (tcright_yes (k := lv) (by omega) h1 h2 h3 h4)
  have hp := pow_le (k := lv) (j := 16 - lv) (by omega)
  have Q0 := hid (bthen (balloc w (.cells #[.int .i64 lv, .int .i64 X, .int .i64 Y] 24)) (balloc _ (.cells #[.int .i64 0, .int .i64 0, .int .i64 0] 24)))
  have P0 := hid ((Blk.new w #[.int .i64 lv, .int .i64 X, .int .i64 Y] 24).alloc (.cells #[.int .i64 0, .int .i64 0, .int .i64 0] 24))
  have C0 := hid (Blk.newAt (w := w.alloc (.cells #[.int .i64 lv, .int .i64 X, .int .i64 Y] 24)) (k := w.heap.size + 1) (by simp) #[.int .i64 0, .int .i64 0, .int .i64 0] 24)
  have hx : X ≤ 65536 := by omega
  have hy : Y ≤ 65536 := by omega
  have hlI : (lv : Int) < 16 := by omega
  have hne : ((lv : Int) == 16) = false := by simp; omega
  have hiI : (i : Int) ≤ 3 := by omega
  clear h2 h4 hp
  unfold cellV at *
  go_enter Try.func53, Try.ntmps53
  go_wp2_with fail
  refine (hr.out _).mono ?_
  rintro e w2 ⟨rfl, hb2⟩
  have P2 := hid (P0.out.ext hb2)
  have C2 := hid (C0.out.ext hb2)
  have Q2 := hid (bthen Q0.out hb2)
  clear hb2 P0 C0 Q0
  obtain ⟨p0, p1, p2, pf, pz⟩ := P2.out.three
  obtain ⟨c0, c1, c2, cf, cz⟩ := C2.out.three
  go_wp2_with fail
  exact bodyPost_ret (v := .tuple #[.agg #[.int .i64 ((lv + 1 : Nat) : Int), .int .i64 (2 * X + (i % 2 : Nat)), .int .i64 (2 * Y + (i / 2 : Nat))], .bool true]) (by simp [results, Try.results53, go_sem, c0, c1, c2]) rfl ⟨rfl, bset (bset (bset Q2.out (by omega) _) (by omega) _) (by omega) _⟩

end Go.Proofs.Yteddkgpnklfppaa
