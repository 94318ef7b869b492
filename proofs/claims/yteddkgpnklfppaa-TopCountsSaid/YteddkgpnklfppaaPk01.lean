/-
  The pyramid and the tree of points as plain Lean: codes of cells, nodes, what stands in which node. No program.
-/
import Derived.Test.YteddkgpnklfppaaRows

namespace Go.Proofs.Yteddkgpnklfppaa.Tc

/-! ### codes -/
/-- a cell's code -/
def mort : Nat → Int → Int → Int
  | 0, _, _ => 0
  | n + 1, x, y => mort n (x / 2) (y / 2) * 4 + y % 2 * 2 + x % 2
theorem mort_bd : ∀ (n : Nat) (x y : Int), 0 ≤ mort n x y ∧ mort n x y < 4 ^ n
  | 0, _, _ => by simp [mort]
  | n + 1, x, y => by
    obtain ⟨h1, h2⟩ := mort_bd n (x / 2) (y / 2)
    rw [mort, Int.pow_succ]
    generalize (4 : Int) ^ n = q at *
    generalize mort n (x / 2) (y / 2) = m at *
    omega
theorem mort_inj : ∀ (n : Nat) (x y u v : Int), 0 ≤ x → x < 2 ^ n → 0 ≤ y → y < 2 ^ n → 0 ≤ u → u < 2 ^ n → 0 ≤ v → v < 2 ^ n → mort n x y = mort n u v → x = u ∧ y = v
  | 0, x, y, u, v, h1, h2, h3, h4, h5, h6, h7, h8, _ => by
    simp only [Int.pow_zero] at h2 h4 h6 h8
    omega
  | n + 1, x, y, u, v, h1, h2, h3, h4, h5, h6, h7, h8, h => by
    rw [mort, mort] at h
    rw [Int.pow_succ] at h2 h4 h6 h8
    have ha : mort n (x / 2) (y / 2) = mort n (u / 2) (v / 2) := by
      generalize mort n (x / 2) (y / 2) = m at *
      generalize mort n (u / 2) (v / 2) = m' at *
      omega
    rw [ha] at h
    have hi := mort_inj n (x / 2) (y / 2) (u / 2) (v / 2) (by omega) (by omega) (by omega) (by omega) (by omega) (by omega) (by omega) (by omega) ha
    generalize mort n (u / 2) (v / 2) = m' at *
    omega
theorem mort_up (n : Nat) (x y : Int) : mort (n + 1) x y / 4 = mort n (x / 2) (y / 2) := by
  rw [mort]
  generalize mort n (x / 2) (y / 2) = m
  omega

/-- a point's number among the cells of a level -/
def sh (l : Nat) (x : Int) : Int := x / 2 ^ (16 - l)
theorem pow_pos (n : Nat) : (0 : Int) < 2 ^ n := Int.pow_pos (by decide)
theorem sh_bd {l : Nat} (hl : l ≤ 16) {x : Int} (h0 : 0 ≤ x) (h1 : x ≤ 65535) : 0 ≤ sh l x ∧ sh l x < 2 ^ l := by
  unfold sh
  have hp := pow_pos (16 - l)
  refine ⟨Int.ediv_nonneg h0 (by omega), Int.ediv_lt_of_lt_mul hp ?_⟩
  rw [← Int.pow_add, show l + (16 - l) = 16 by omega]
  have : (2 : Int) ^ 16 = 65536 := by decide
  omega
theorem sh_up {l : Nat} (hl : l < 16) (x : Int) : sh (l + 1) x / 2 = sh l x := by
  unfold sh
  rw [show 16 - l = (16 - (l + 1)) + 1 by omega, Int.pow_succ, Int.ediv_ediv_of_nonneg (by have := pow_pos (16 - (l + 1)); omega)]
theorem sh_16 (x : Int) : sh 16 x = x := by unfold sh; simp
theorem sh_0 {x : Int} (h0 : 0 ≤ x) (h1 : x ≤ 65535) : sh 0 x = 0 := by
  have := sh_bd (l := 0) (by omega) h0 h1
  simp only [Int.pow_zero] at this
  omega
/-- a cell above -/
theorem sh_above {l k : Nat} (h : l ≤ k) (hk : k ≤ 16) (x : Int) : sh k x / 2 ^ (k - l) = sh l x := by
  unfold sh
  rw [Int.ediv_ediv_of_nonneg (by have := pow_pos (16 - k); omega), ← Int.pow_add]
  congr 2; omega
def key (l : Nat) (x y : Int) : Int := mort l (sh l x) (sh l y)
theorem key_up {l : Nat} (hl : l < 16) (x y : Int) : key (l + 1) x y / 4 = key l x y := by
  unfold key
  rw [mort_up, sh_up hl, sh_up hl]

/-! ### counts -/
structure Rec where
  id : Int
  x : Int
  y : Int
  label : Int
def Rec.fit (r : Rec) : Prop := 0 ≤ r.x ∧ r.x ≤ 65535 ∧ 0 ≤ r.y ∧ r.y ≤ 65535
def inC (l : Nat) (X Y : Int) (r : Rec) : Bool := sh l r.x == X && sh l r.y == Y
def inB (x0 y0 x1 y1 : Int) (r : Rec) : Bool := decide (x0 ≤ r.x ∧ r.x ≤ x1 ∧ y0 ≤ r.y ∧ r.y ≤ y1)
def cntK (l : Nat) (k : Int) (L : List Rec) : Nat := (L.filter fun r => key l r.x r.y == k).length
def cntC (l : Nat) (X Y : Int) (L : List Rec) : Nat := (L.filter (inC l X Y)).length
def cntB (x0 y0 x1 y1 : Int) (L : List Rec) : Nat := (L.filter (inB x0 y0 x1 y1)).length
theorem cntK_C {l : Nat} {X Y : Int} {L : List Rec} (hl : l ≤ 16) (hf : ∀ r ∈ L, r.fit) (h1 : 0 ≤ X) (h2 : X < 2 ^ l) (h3 : 0 ≤ Y) (h4 : Y < 2 ^ l) : cntK l (mort l X Y) L = cntC l X Y L := by
  unfold cntK cntC
  congr 1
  refine List.filter_congr fun r hr => ?_
  obtain ⟨a, b, c, d⟩ := hf r hr
  obtain ⟨e1, e2⟩ := sh_bd hl a b
  obtain ⟨e3, e4⟩ := sh_bd hl c d
  unfold inC key
  rw [Bool.eq_iff_iff]
  simp only [beq_iff_eq, Bool.and_eq_true]
  exact ⟨fun h => mort_inj l _ _ _ _ e1 e2 e3 e4 h1 h2 h3 h4 h, fun h => by rw [h.1, h.2]⟩
theorem sh_iff (l : Nat) (x X : Int) : sh l x = X ↔ X * 2 ^ (16 - l) ≤ x ∧ x ≤ (X + 1) * 2 ^ (16 - l) - 1 := by
  unfold sh
  have hp := pow_pos (16 - l)
  have h1 := Int.le_ediv_iff_mul_le hp (a := X) (b := x)
  have h2 := Int.ediv_lt_iff_lt_mul hp (a := x) (b := X + 1)
  generalize x / 2 ^ (16 - l) = q at *
  generalize X * 2 ^ (16 - l) = u at *
  generalize (X + 1) * 2 ^ (16 - l) = v at *
  omega
theorem inC_B (l : Nat) (X Y : Int) : inC l X Y = inB (X * 2 ^ (16 - l)) (Y * 2 ^ (16 - l)) ((X + 1) * 2 ^ (16 - l) - 1) ((Y + 1) * 2 ^ (16 - l) - 1) := by
  funext r
  unfold inC inB
  rw [Bool.eq_iff_iff]
  simp only [beq_iff_eq, Bool.and_eq_true, decide_eq_true_eq, sh_iff]
  constructor
  · rintro ⟨⟨a, b⟩, c, d⟩; exact ⟨a, b, c, d⟩
  · rintro ⟨a, b, c, d⟩; exact ⟨⟨a, b⟩, c, d⟩
theorem cntC_B (l : Nat) (X Y : Int) (L : List Rec) : cntC l X Y L = cntB (X * 2 ^ (16 - l)) (Y * 2 ^ (16 - l)) ((X + 1) * 2 ^ (16 - l) - 1) ((Y + 1) * 2 ^ (16 - l) - 1) L := by
  unfold cntC cntB
  rw [inC_B]
theorem cntK_snoc (l : Nat) (k : Int) (L : List Rec) (r : Rec) : cntK l k (L ++ [r]) = cntK l k L + if key l r.x r.y = k then 1 else 0 := by
  unfold cntK
  rw [List.filter_append, List.length_append]
  congr 1
  by_cases h : key l r.x r.y = k
  · rw [if_pos h, List.filter_cons_of_pos (by simpa using h)]; rfl
  · rw [if_neg h, List.filter_cons_of_neg (by simpa using h)]; rfl
theorem filter_two {α : Type} (p q : α → Bool) (s : α → Bool) (L : List α) (h : ∀ a ∈ L, s a = (p a || q a)) (hd : ∀ a ∈ L, p a = true → q a = false) : (L.filter s).length = (L.filter p).length + (L.filter q).length := by
  induction L with
  | nil => rfl
  | cons a L ih =>
    have i := ih (fun b hb => h b (List.mem_cons_of_mem _ hb)) (fun b hb => hd b (List.mem_cons_of_mem _ hb))
    have h1 := h a List.mem_cons_self
    have h2 := hd a List.mem_cons_self
    cases hp : p a with
    | true =>
      rw [hp] at h1 h2
      rw [List.filter_cons_of_pos (by rw [h1]; rfl), List.filter_cons_of_pos hp, List.filter_cons_of_neg (by rw [h2 rfl]; decide)]
      simp only [List.length_cons]; omega
    | false =>
      rw [hp] at h1
      cases hq : q a with
      | true =>
        rw [hq] at h1
        rw [List.filter_cons_of_pos (by rw [h1]; rfl), List.filter_cons_of_neg (by rw [hp]; decide), List.filter_cons_of_pos hq]
        simp only [List.length_cons]; omega
      | false =>
        rw [hq] at h1
        rw [List.filter_cons_of_neg (by rw [h1]; decide), List.filter_cons_of_neg (by rw [hp]; decide), List.filter_cons_of_neg (by rw [hq]; decide)]
        exact i

/-! ### the tree -/
structure Node where
  lv : Nat
  X : Int
  Y : Int
  k0 : Int
  k1 : Int
  k2 : Int
  k3 : Int
  many : Nat
  split : Bool
  l : List Rec
def Node.kid (n : Node) (q : Nat) : Int := if q = 0 then n.k0 else if q = 1 then n.k1 else if q = 2 then n.k2 else n.k3
def Node.has (n : Node) : Rec → Bool := inC n.lv n.X n.Y
/-- which child has a record -/
def which (lv : Nat) (r : Rec) : Nat := (sh (lv + 1) r.x % 2 + sh (lv + 1) r.y % 2 * 2).toNat
theorem which_lt (lv : Nat) (r : Rec) : which lv r < 4 := by unfold which; omega
def newLeaf (lv : Nat) (X Y : Int) : Node := ⟨lv, X, Y, -1, -1, -1, -1, 0, false, []⟩
def fourOf (lv : Nat) (X Y : Int) : List Node := [newLeaf (lv + 1) (2 * X) (2 * Y), newLeaf (lv + 1) (2 * X + 1) (2 * Y), newLeaf (lv + 1) (2 * X) (2 * Y + 1), newLeaf (lv + 1) (2 * X + 1) (2 * Y + 1)]
def splitN (s : Nat) (n : Node) : Node := { n with k0 := s, k1 := s + 1, k2 := s + 2, k3 := s + 3, many := 0, split := true, l := [] }
def partN (N : List Node) (a : Nat) (n : Node) : List Node := N.set a (splitN N.length n) ++ fourOf n.lv n.X n.Y
def more (n : Node) : Node := { n with many := n.many + 1 }
def addR (n : Node) (r : Rec) : Node := { n with many := n.many + 1, l := n.l ++ [r] }
def putV (b : Nat) : Nat → List Node → Nat → Rec → List Node
  | 0, N, _, _ => N
  | f + 1, N, a, r =>
    match N[a]? with
    | none => N
    | some n =>
      if n.split then putV b f (N.set a (more n)) (n.kid (which n.lv r)).toNat r
      else if b < n.l.length + 1 ∧ n.lv < 16 then (n.l ++ [r]).foldl (fun M x => putV b f M a x) (partN N a n)
      else N.set a (addR n r)

structure Shape (N : List Node) : Prop where
  cell : ∀ (i : Nat) (n : Node), N[i]? = some n → n.lv ≤ 16 ∧ 0 ≤ n.X ∧ n.X < 2 ^ n.lv ∧ 0 ≤ n.Y ∧ n.Y < 2 ^ n.lv
  kids : ∀ (i : Nat) (n : Node), N[i]? = some n → n.split = true → n.l = [] ∧ n.lv < 16 ∧ ∀ q : Nat, q < 4 → ∃ (k : Nat) (m : Node), n.kid q = (k : Int) ∧ i < k ∧ N[k]? = some m ∧ m.lv = n.lv + 1 ∧ m.X = 2 * n.X + (q % 2 : Nat) ∧ m.Y = 2 * n.Y + (q / 2 : Nat)
  one : ∀ (i j : Nat) (n m : Node), N[i]? = some n → N[j]? = some m → n.lv = m.lv → n.X = m.X → n.Y = m.Y → i = j
  up : ∀ (i : Nat) (n : Node), N[i]? = some n → 0 < n.lv → ∃ (j : Nat) (m : Node), N[j]? = some m ∧ m.split = true ∧ m.lv + 1 = n.lv ∧ n.X / 2 = m.X ∧ n.Y / 2 = m.Y
/-- a node's cell is below another one, or is it -/
def Under (l : Nat) (X Y : Int) (n : Node) : Prop := l ≤ n.lv ∧ n.X / 2 ^ (n.lv - l) = X ∧ n.Y / 2 ^ (n.lv - l) = Y
def Holds (N : List Node) (l : Nat) (X Y : Int) (A : List Rec) : Prop :=
  ∀ (i : Nat) (n : Node), N[i]? = some n → Under l X Y n → n.many = (A.filter n.has).length ∧ (n.split = false → n.l = A.filter n.has)

theorem under_self (n : Node) : Under n.lv n.X n.Y n := by unfold Under; simp
theorem under_same {l : Nat} {X Y : Int} {n m : Node} (h : Under l X Y n) (h1 : m.lv = n.lv) (h2 : m.X = n.X) (h3 : m.Y = n.Y) : Under l X Y m := by
  unfold Under at *; rw [h1, h2, h3]; exact h
theorem under_trans {l : Nat} {X Y : Int} {n m : Node} (h : Under l X Y n) (k : Under n.lv n.X n.Y m) : Under l X Y m := by
  unfold Under at *
  obtain ⟨h1, h2, h3⟩ := h
  obtain ⟨k1, k2, k3⟩ := k
  refine ⟨by omega, ?_, ?_⟩
  · rw [show m.lv - l = (m.lv - n.lv) + (n.lv - l) by omega, Int.pow_add, ← Int.ediv_ediv_of_nonneg (by have := pow_pos (m.lv - n.lv); omega), k2, h2]
  · rw [show m.lv - l = (m.lv - n.lv) + (n.lv - l) by omega, Int.pow_add, ← Int.ediv_ediv_of_nonneg (by have := pow_pos (m.lv - n.lv); omega), k3, h3]
theorem under_child {n m : Node} (h1 : m.lv = n.lv + 1) (h2 : m.X / 2 = n.X) (h3 : m.Y / 2 = n.Y) : Under n.lv n.X n.Y m := by
  unfold Under
  rw [h1, show n.lv + 1 - n.lv = 1 by omega]
  simp only [Int.pow_one]
  omega
theorem has_iff {n : Node} {r : Rec} : n.has r = true ↔ sh n.lv r.x = n.X ∧ sh n.lv r.y = n.Y := by unfold Node.has inC; simp
/-- what a node below has, the node has -/
theorem has_under {l : Nat} {X Y : Int} {n : Node} (h : Under l X Y n) (hn : n.lv ≤ 16) {r : Rec} (hr : n.has r = true) : inC l X Y r = true := by
  obtain ⟨h1, h2, h3⟩ := h
  rw [has_iff] at hr
  unfold inC
  rw [← sh_above h1 hn, ← sh_above h1 hn, hr.1, hr.2, h2, h3]
  simp
/-- if a node below a cell, that is not the cell itself, has a record of the cell, it is below the child that has it -/
theorem under_kid {n m c : Node} (_h : Under n.lv n.X n.Y c) (hc : c.lv ≤ 16) (hlt : n.lv < c.lv) {r : Rec} (hr : c.has r = true) (h1 : m.lv = n.lv + 1) (hm : m.has r = true) : Under m.lv m.X m.Y c := by
  rw [has_iff] at hr hm
  refine ⟨by omega, ?_, ?_⟩
  · rw [← hr.1, ← hm.1]; exact sh_above (by omega) hc _
  · rw [← hr.2, ← hm.2]; exact sh_above (by omega) hc _
/-- a cell that has nodes below it is split -/
theorem Shape.above {N : List Node} (h : Shape N) {l : Nat} {X Y : Int} : ∀ (k : Nat) (i : Nat) (c : Node), N[i]? = some c → Under l X Y c → c.lv = l + (k + 1) → ∃ (j : Nat) (m : Node), N[j]? = some m ∧ m.split = true ∧ m.lv = l ∧ m.X = X ∧ m.Y = Y
  | 0, i, c, hc, hu, hk => by
    obtain ⟨j, m, h1, h2, h3, h4, h5⟩ := h.up i c hc (by omega)
    obtain ⟨_, u1, u2⟩ := hu
    rw [hk, show l + (0 + 1) - l = 1 by omega] at u1 u2
    simp only [Int.pow_one] at u1 u2
    exact ⟨j, m, h1, h2, by omega, by omega, by omega⟩
  | k + 1, i, c, hc, hu, hk => by
    obtain ⟨j, m, h1, h2, h3, h4, h5⟩ := h.up i c hc (by omega)
    obtain ⟨_, u1, u2⟩ := hu
    refine Shape.above h k j m h1 ⟨by omega, ?_, ?_⟩ (by omega)
    · rw [← h4, Int.ediv_ediv_of_nonneg (by decide), ← u1, show c.lv - l = (m.lv - l) + 1 by omega, Int.pow_succ, Int.mul_comm]
    · rw [← h5, Int.ediv_ediv_of_nonneg (by decide), ← u2, show c.lv - l = (m.lv - l) + 1 by omega, Int.pow_succ, Int.mul_comm]
/-- below a leaf there is nothing -/
theorem Shape.leaf {N : List Node} (h : Shape N) {a : Nat} {n : Node} (ha : N[a]? = some n) (hs : n.split = false) {i : Nat} {c : Node} (hc : N[i]? = some c) (hu : Under n.lv n.X n.Y c) : i = a := by
  rcases Nat.lt_or_ge n.lv c.lv with hlt | hge
  · obtain ⟨j, m, h1, h2, h3, h4, h5⟩ := h.above (c.lv - n.lv - 1) i c hc hu (by omega)
    have hj := h.one j a m n h1 ha h3 h4 h5
    subst hj
    rw [ha] at h1
    cases h1
    rw [hs] at h2; cases h2
  · obtain ⟨u0, u1, u2⟩ := hu
    have hl : c.lv = n.lv := by omega
    rw [hl] at u1 u2
    simp at u1 u2
    exact h.one i a c n hc ha hl u1 u2
theorem kid_has {n m : Node} {r : Rec} (hn : n.has r = true) (hl : n.lv < 16) (h1 : m.lv = n.lv + 1) (h2 : m.X = 2 * n.X + (which n.lv r % 2 : Nat)) (h3 : m.Y = 2 * n.Y + (which n.lv r / 2 : Nat)) : m.has r = true := by
  rw [has_iff] at *
  have a := sh_up hl r.x
  have b := sh_up hl r.y
  rw [h1, h2, h3, ← hn.1, ← hn.2]
  unfold which
  generalize sh (n.lv + 1) r.x = u at *
  generalize sh (n.lv + 1) r.y = v at *
  omega

theorem set_get {N : List Node} {a i : Nat} {u c : Node} (h : (N.set a u)[i]? = some c) : (i = a ∧ a < N.length ∧ c = u) ∨ (i ≠ a ∧ N[i]? = some c) := by
  rw [List.getElem?_set] at h
  split at h
  · rename_i e
    split at h
    · rename_i hlt
      cases h
      exact .inl ⟨e.symm, hlt, rfl⟩
    · cases h
  · rename_i e
    exact .inr ⟨fun x => e x.symm, h⟩
theorem set_get_self {N : List Node} {a : Nat} {n u : Node} (h : N[a]? = some n) : (N.set a u)[a]? = some u := by
  have hlt : a < N.length := (List.getElem?_eq_some_iff.1 h).1
  rw [List.getElem?_set, if_pos rfl, if_pos hlt]
theorem set_get_other {N : List Node} {a i : Nat} {u : Node} (h : i ≠ a) : (N.set a u)[i]? = N[i]? := by
  rw [List.getElem?_set, if_neg (fun e => h e.symm)]
/-- the same cells, the same children -/
theorem Shape.set {N : List Node} (h : Shape N) {a : Nat} {n u : Node} (ha : N[a]? = some n) (h1 : u.lv = n.lv) (h2 : u.X = n.X) (h3 : u.Y = n.Y) (h4 : u.split = n.split) (h5 : ∀ q, u.kid q = n.kid q) (h6 : u.split = true → u.l = []) : Shape (N.set a u) := by
  have get : ∀ {i : Nat} {c : Node}, N[i]? = some c → ∃ c', (N.set a u)[i]? = some c' ∧ c'.lv = c.lv ∧ c'.X = c.X ∧ c'.Y = c.Y ∧ c'.split = c.split := fun {i c} hc => by
    by_cases e : i = a
    · subst e
      rw [ha] at hc; cases hc
      exact ⟨u, set_get_self ha, h1, h2, h3, h4⟩
    · exact ⟨c, by rw [set_get_other e]; exact hc, rfl, rfl, rfl, rfl⟩
  have back : ∀ {i : Nat} {c : Node}, (N.set a u)[i]? = some c → ∃ c', N[i]? = some c' ∧ c.lv = c'.lv ∧ c.X = c'.X ∧ c.Y = c'.Y ∧ c.split = c'.split ∧ (∀ q, c.kid q = c'.kid q) ∧ (c'.l = [] → c.split = true → c.l = []) := fun {i c} hc => by
    rcases set_get hc with ⟨rfl, _, rfl⟩ | ⟨_, hc⟩
    · exact ⟨n, ha, h1, h2, h3, h4, h5, fun _ => h6⟩
    · exact ⟨c, hc, rfl, rfl, rfl, rfl, fun _ => rfl, fun h _ => h⟩
  refine ⟨fun i c hc => ?_, fun i c hc hs => ?_, fun i j c d hc hd e1 e2 e3 => ?_, fun i c hc h0 => ?_⟩
  · obtain ⟨c', g1, g2, g3, g4, _⟩ := back hc
    rw [g2, g3, g4]; exact h.cell i c' g1
  · obtain ⟨c', g1, g2, g3, g4, g5, g6, g7⟩ := back hc
    obtain ⟨k1, k2, k3⟩ := h.kids i c' g1 (by rw [← g5]; exact hs)
    refine ⟨g7 k1 hs, by rw [g2]; exact k2, fun q hq => ?_⟩
    obtain ⟨k, m, m1, m2, m3, m4, m5, m6⟩ := k3 q hq
    obtain ⟨m', n1, n2, n3, n4, _⟩ := get m3
    exact ⟨k, m', by rw [g6]; exact m1, m2, n1, by rw [n2, m4, g2], by rw [n3, m5, g3], by rw [n4, m6, g4]⟩
  · obtain ⟨c', g1, g2, g3, g4, _⟩ := back hc
    obtain ⟨d', k1, k2, k3, k4, _⟩ := back hd
    exact h.one i j c' d' g1 k1 (by rw [← g2, ← k2]; exact e1) (by rw [← g3, ← k3]; exact e2) (by rw [← g4, ← k4]; exact e3)
  · obtain ⟨c', g1, g2, g3, g4, _⟩ := back hc
    obtain ⟨j, m, m1, m2, m3, m4, m5⟩ := h.up i c' g1 (by rw [← g2]; exact h0)
    obtain ⟨m', n1, n2, n3, n4, n5⟩ := get m1
    exact ⟨j, m', n1, by rw [n5]; exact m2, by rw [n2, m3, g2], by rw [n3, ← m4, g3], by rw [n4, ← m5, g4]⟩

theorem four_get {lv : Nat} {X Y : Int} {q : Nat} {c : Node} (h : (fourOf lv X Y)[q]? = some c) : q < 4 ∧ c = newLeaf (lv + 1) (2 * X + (q % 2 : Nat)) (2 * Y + (q / 2 : Nat)) := by
  have hq : q < 4 := (List.getElem?_eq_some_iff.1 h).1
  refine ⟨hq, ?_⟩
  obtain rfl | rfl | rfl | rfl : q = 0 ∨ q = 1 ∨ q = 2 ∨ q = 3 := by omega
  all_goals
    simp only [fourOf, List.getElem?_cons_zero, List.getElem?_cons_succ, Option.some.injEq] at h
    subst h
    simp [newLeaf]
theorem four_at {lv : Nat} {X Y : Int} {q : Nat} (hq : q < 4) : (fourOf lv X Y)[q]? = some (newLeaf (lv + 1) (2 * X + (q % 2 : Nat)) (2 * Y + (q / 2 : Nat))) := by
  obtain rfl | rfl | rfl | rfl : q = 0 ∨ q = 1 ∨ q = 2 ∨ q = 3 := by omega
  all_goals simp [fourOf]
theorem split_kid (s : Nat) (n : Node) {q : Nat} (hq : q < 4) : (splitN s n).kid q = ((s + q : Nat) : Int) := by
  obtain rfl | rfl | rfl | rfl : q = 0 ∨ q = 1 ∨ q = 2 ∨ q = 3 := by omega
  all_goals simp [Node.kid, splitN]
theorem part_get {N : List Node} {a : Nat} {n : Node} {i : Nat} {c : Node} (h : (partN N a n)[i]? = some c) :
    (i = a ∧ c = splitN N.length n) ∨ (i ≠ a ∧ N[i]? = some c) ∨ (∃ q, q < 4 ∧ i = N.length + q ∧ c = newLeaf (n.lv + 1) (2 * n.X + (q % 2 : Nat)) (2 * n.Y + (q / 2 : Nat))) := by
  unfold partN at h
  rcases Nat.lt_or_ge i N.length with hlt | hge
  · rw [List.getElem?_append_left (by simpa using hlt)] at h
    rcases set_get h with ⟨h1, _, h2⟩ | h1
    · exact .inl ⟨h1, h2⟩
    · exact .inr (.inl h1)
  · rw [List.getElem?_append_right (by simpa using hge)] at h
    rw [List.length_set] at h
    obtain ⟨h1, h2⟩ := four_get h
    exact .inr (.inr ⟨i - N.length, h1, by omega, h2⟩)
theorem part_self {N : List Node} {a : Nat} {n : Node} (h : N[a]? = some n) : (partN N a n)[a]? = some (splitN N.length n) := by
  have hlt : a < N.length := (List.getElem?_eq_some_iff.1 h).1
  unfold partN
  rw [List.getElem?_append_left (by simpa using hlt), set_get_self h]
theorem part_other {N : List Node} {a i : Nat} {n c : Node} (h : N[i]? = some c) (hn : i ≠ a) : (partN N a n)[i]? = some c := by
  have hlt : i < N.length := (List.getElem?_eq_some_iff.1 h).1
  unfold partN
  rw [List.getElem?_append_left (by simpa using hlt), set_get_other hn, h]
theorem part_new {N : List Node} {a : Nat} {n : Node} {q : Nat} (hq : q < 4) : (partN N a n)[N.length + q]? = some (newLeaf (n.lv + 1) (2 * n.X + (q % 2 : Nat)) (2 * n.Y + (q / 2 : Nat))) := by
  unfold partN
  rw [List.getElem?_append_right (by simp), List.length_set, Nat.add_sub_cancel_left, four_at hq]
theorem part_len (N : List Node) (a : Nat) (n : Node) : (partN N a n).length = N.length + 4 := by
  unfold partN fourOf
  simp
theorem Shape.part {N : List Node} (h : Shape N) {a : Nat} {n : Node} (ha : N[a]? = some n) (hs : n.split = false) (hl : n.lv < 16) : Shape (partN N a n) := by
  have hlt : a < N.length := (List.getElem?_eq_some_iff.1 ha).1
  obtain ⟨c1, c2, c3, c4, c5⟩ := h.cell a n ha
  -- a new cell is none of the old ones
  have fresh : ∀ {i : Nat} {c : Node} {q : Nat}, N[i]? = some c → q < 4 → ¬ (c.lv = n.lv + 1 ∧ c.X = 2 * n.X + (q % 2 : Nat) ∧ c.Y = 2 * n.Y + (q / 2 : Nat)) := by
    rintro i c q hc hq ⟨e1, e2, e3⟩
    have hi := h.leaf ha hs hc (under_child e1 (by omega) (by omega))
    subst hi
    rw [ha] at hc
    cases hc
    omega
  have old : ∀ {i : Nat} {c : Node}, N[i]? = some c → ∃ c', (partN N a n)[i]? = some c' ∧ c'.lv = c.lv ∧ c'.X = c.X ∧ c'.Y = c.Y ∧ (c.split = true → c'.split = true) := fun {i c} hc => by
    by_cases e : i = a
    · subst e
      rw [ha] at hc; cases hc
      exact ⟨_, part_self ha, rfl, rfl, rfl, fun _ => rfl⟩
    · exact ⟨c, part_other hc e, rfl, rfl, rfl, id⟩
  -- each one's cell is an old one's, or a new one's
  have cases' : ∀ {i : Nat} {c : Node}, (partN N a n)[i]? = some c → (∃ c', N[i]? = some c' ∧ c.lv = c'.lv ∧ c.X = c'.X ∧ c.Y = c'.Y) ∨ (∃ q, q < 4 ∧ i = N.length + q ∧ c.lv = n.lv + 1 ∧ c.X = 2 * n.X + (q % 2 : Nat) ∧ c.Y = 2 * n.Y + (q / 2 : Nat)) := fun {i c} hc => by
    rcases part_get hc with ⟨rfl, rfl⟩ | ⟨_, hc'⟩ | ⟨q, hq, hi, rfl⟩
    · exact .inl ⟨n, ha, rfl, rfl, rfl⟩
    · exact .inl ⟨c, hc', rfl, rfl, rfl⟩
    · exact .inr ⟨q, hq, hi, rfl, rfl, rfl⟩
  refine ⟨fun i c hc => ?_, fun i c hc hsp => ?_, fun i j c d hc hd e1 e2 e3 => ?_, fun i c hc h0 => ?_⟩
  · rcases cases' hc with ⟨c', g1, g2, g3, g4⟩ | ⟨q, hq, hi, g2, g3, g4⟩
    · rw [g2, g3, g4]; exact h.cell i c' g1
    · rw [g2, g3, g4, Int.pow_succ]
      generalize (2 : Int) ^ n.lv = p at *
      refine ⟨by omega, by omega, by omega, by omega, by omega⟩
  · rcases part_get hc with ⟨rfl, rfl⟩ | ⟨hi, hc'⟩ | ⟨q, hq, hi, rfl⟩
    · refine ⟨rfl, hl, fun q hq => ?_⟩
      exact ⟨N.length + q, _, split_kid _ _ hq, by omega, part_new hq, rfl, rfl, rfl⟩
    · obtain ⟨k1, k2, k3⟩ := h.kids i c hc' hsp
      refine ⟨k1, k2, fun q hq => ?_⟩
      obtain ⟨k, m, m1, m2, m3, m4, m5, m6⟩ := k3 q hq
      obtain ⟨m', n1, n2, n3, n4, _⟩ := old m3
      exact ⟨k, m', m1, m2, n1, by rw [n2, m4], by rw [n3, m5], by rw [n4, m6]⟩
    · cases hsp
  · rcases cases' hc with ⟨c', g1, g2, g3, g4⟩ | ⟨q, hq, hi, g2, g3, g4⟩
    · rcases cases' hd with ⟨d', k1, k2, k3, k4⟩ | ⟨q', hq', hj, k2, k3, k4⟩
      · exact h.one i j c' d' g1 k1 (by omega) (by omega) (by omega)
      · exact absurd ⟨by omega, by omega, by omega⟩ (fresh g1 hq')
    · rcases cases' hd with ⟨d', k1, k2, k3, k4⟩ | ⟨q', hq', hj, k2, k3, k4⟩
      · exact absurd ⟨by omega, by omega, by omega⟩ (fresh k1 hq)
      · omega
  · rcases cases' hc with ⟨c', g1, g2, g3, g4⟩ | ⟨q, hq, hi, g2, g3, g4⟩
    · obtain ⟨j, m, m1, m2, m3, m4, m5⟩ := h.up i c' g1 (by omega)
      obtain ⟨m', n1, n2, n3, n4, n5⟩ := old m1
      exact ⟨j, m', n1, n5 m2, by omega, by omega, by omega⟩
    · exact ⟨a, _, part_self ha, rfl, by rw [g2]; rfl, by rw [g3]; show _ = n.X; omega, by rw [g4]; show _ = n.Y; omega⟩

/-- what a putting leaves of the nodes outside -/
structure Kept (l : Nat) (X Y : Int) (N N' : List Node) : Prop where
  len : N.length ≤ N'.length
  old : ∀ (i : Nat) (m : Node), N[i]? = some m → ∃ m', N'[i]? = some m' ∧ m'.lv = m.lv ∧ m'.X = m.X ∧ m'.Y = m.Y ∧ (¬ Under l X Y m → m' = m) ∧ (m.split = true → m'.split = true)
  new : ∀ (i : Nat) (m : Node), N.length ≤ i → N'[i]? = some m → Under l X Y m
theorem Kept.refl (l : Nat) (X Y : Int) (N : List Node) : Kept l X Y N N :=
  ⟨Nat.le_refl _, fun i m h => ⟨m, h, rfl, rfl, rfl, fun _ => rfl, id⟩, fun i m hi h => by
    have := (List.getElem?_eq_some_iff.1 h).1; omega⟩
theorem Kept.trans {l : Nat} {X Y : Int} {N M K : List Node} (h : Kept l X Y N M) (k : Kept l X Y M K) : Kept l X Y N K := by
  refine ⟨Nat.le_trans h.len k.len, fun i m hm => ?_, fun i m hi hm => ?_⟩
  · obtain ⟨m', a1, a2, a3, a4, a5, a6⟩ := h.old i m hm
    obtain ⟨m2, b1, b2, b3, b4, b5, b6⟩ := k.old i m' a1
    exact ⟨m2, b1, by omega, by omega, by omega, fun hu => by rw [b5 (fun hu' => hu (under_same hu' a2.symm a3.symm a4.symm)), a5 hu], fun hs => b6 (a6 hs)⟩
  · rcases Nat.lt_or_ge i M.length with hlt | hge
    · obtain ⟨m', a1⟩ : ∃ m', M[i]? = some m' := ⟨M[i], List.getElem?_eq_getElem hlt⟩
      have hu := h.new i m' hi a1
      obtain ⟨m2, b1, b2, b3, b4, _⟩ := k.old i m' a1
      rw [b1] at hm; cases hm
      exact under_same hu b2 b3 b4
    · exact k.new i m hge hm
theorem Kept.wide {l : Nat} {X Y : Int} {m : Node} {N N' : List Node} (h : Kept m.lv m.X m.Y N N') (hu : Under l X Y m) : Kept l X Y N N' :=
  ⟨h.len, fun i c hc => by
    obtain ⟨c', a1, a2, a3, a4, a5, a6⟩ := h.old i c hc
    exact ⟨c', a1, a2, a3, a4, fun hn => a5 (fun hu' => hn (under_trans hu hu')), a6⟩, fun i c hi hc => under_trans hu (h.new i c hi hc)⟩
theorem kept_set {N : List Node} {a : Nat} {n u : Node} (ha : N[a]? = some n) (h1 : u.lv = n.lv) (h2 : u.X = n.X) (h3 : u.Y = n.Y) (h4 : n.split = true → u.split = true) : Kept n.lv n.X n.Y N (N.set a u) := by
  refine ⟨by simp, fun i m hm => ?_, fun i m hi hm => ?_⟩
  · by_cases e : i = a
    · subst e
      rw [ha] at hm; cases hm
      exact ⟨u, set_get_self ha, h1, h2, h3, fun hn => absurd (under_self n) hn, h4⟩
    · exact ⟨m, by rw [set_get_other e]; exact hm, rfl, rfl, rfl, fun _ => rfl, id⟩
  · have := (List.getElem?_eq_some_iff.1 hm).1
    simp at this; omega
theorem kept_part {N : List Node} {a : Nat} {n : Node} (ha : N[a]? = some n) : Kept n.lv n.X n.Y N (partN N a n) := by
  refine ⟨by rw [part_len]; omega, fun i m hm => ?_, fun i m hi hm => ?_⟩
  · by_cases e : i = a
    · subst e
      rw [ha] at hm; cases hm
      exact ⟨_, part_self ha, rfl, rfl, rfl, fun hn => absurd (under_self n) hn, fun _ => rfl⟩
    · exact ⟨m, part_other hm e, rfl, rfl, rfl, fun _ => rfl, id⟩
  · have hlt : a < N.length := (List.getElem?_eq_some_iff.1 ha).1
    rcases part_get hm with ⟨rfl, _⟩ | ⟨_, hc⟩ | ⟨q, hq, _, rfl⟩
    · omega
    · have := (List.getElem?_eq_some_iff.1 hc).1; omega
    · exact under_child rfl (by show (2 * n.X + (q % 2 : Nat)) / 2 = n.X; omega) (by show (2 * n.Y + (q / 2 : Nat)) / 2 = n.Y; omega)

/-- what comes of a putting -/
structure Put (N : List Node) (l : Nat) (X Y : Int) (A : List Rec) (N' : List Node) : Prop where
  shape : Shape N'
  holds : Holds N' l X Y A
  kept : Kept l X Y N N'
theorem filter_in {n : Node} {A : List Rec} {m : Node} (hu : Under n.lv n.X n.Y m) (hm : m.lv ≤ 16) : (A.filter n.has).filter m.has = A.filter m.has := by
  rw [List.filter_filter]
  refine List.filter_congr fun r _ => ?_
  cases h : m.has r with
  | false => rfl
  | true => rw [show n.has r = true from has_under hu hm h]; rfl
theorem filter_snoc (p : Rec → Bool) (A : List Rec) (r : Rec) : (A ++ [r]).filter p = A.filter p ++ if p r then [r] else [] := by
  rw [List.filter_append]
  cases h : p r with
  | true => rw [List.filter_cons_of_pos h]; rfl
  | false => rw [List.filter_cons_of_neg (by rw [h]; decide)]; rfl
theorem put_ok (b : Nat) : ∀ (f : Nat) (N : List Node) (a : Nat) (r : Rec) (n : Node) (A : List Rec), Shape N → N[a]? = some n → n.has r = true → (if n.split then 2 * (16 - n.lv) else 2 * (16 - n.lv) + 1) ≤ f → Holds N n.lv n.X n.Y A →
    Put N n.lv n.X n.Y (A ++ [r]) (putV b f N a r) := by
  intro f
  induction f with
  | zero =>
    intro N a r n A hS ha hr hf
    exfalso
    split at hf
    · rename_i hs
      have := (hS.kids a n ha hs).2.1
      omega
    · omega
  | succ f ih =>
    intro N a r n A hS ha hr hf hH
    have hlt : a < N.length := (List.getElem?_eq_some_iff.1 ha).1
    have hcell := hS.cell a n ha
    rw [putV, ha]
    simp only
    cases hs : n.split with
    | true =>
      rw [if_pos rfl]
      rw [hs, if_pos rfl] at hf
      obtain ⟨hnl, h16, hk⟩ := hS.kids a n ha hs
      obtain ⟨k, m, m1, m2, m3, m4, m5, m6⟩ := hk (which n.lv r) (which_lt _ _)
      rw [m1, Int.toNat_natCast]
      have hma : k ≠ a := by omega
      have hS1 : Shape (N.set a (more n)) := hS.set ha rfl rfl rfl rfl (fun _ => rfl) (fun _ => hnl)
      have m3' : (N.set a (more n))[k]? = some m := by rw [set_get_other hma]; exact m3
      have hmr : m.has r = true := kid_has hr h16 m4 m5 m6
      have hq4 := which_lt n.lv r
      have hum : Under n.lv n.X n.Y m := under_child m4 (by omega) (by omega)
      have hH1 : Holds (N.set a (more n)) m.lv m.X m.Y A := fun i c hc hu => by
        rcases set_get hc with ⟨rfl, _, rfl⟩ | ⟨hi, hc'⟩
        · have : m.lv ≤ n.lv := hu.1
          omega
        · exact hH i c hc' (under_trans hum hu)
      have hp := ih (N.set a (more n)) k r m A hS1 m3' hmr (by split <;> omega) hH1
      have hk0 : Kept n.lv n.X n.Y N (N.set a (more n)) := kept_set ha rfl rfl rfl (fun h => h)
      refine ⟨hp.shape, fun i c hc hu => ?_, hk0.trans (hp.kept.wide hum)⟩
      by_cases hum' : Under m.lv m.X m.Y c
      · exact hp.holds i c hc hum'
      · rcases Nat.lt_or_ge i (N.set a (more n)).length with hil | hig
        · obtain ⟨c0, hc0⟩ : ∃ c0, (N.set a (more n))[i]? = some c0 := ⟨_, List.getElem?_eq_getElem hil⟩
          obtain ⟨c1, e1, e2, e3, e4, e5, _⟩ := hp.kept.old i c0 hc0
          rw [hc] at e1; cases e1
          have hu0 : ¬ Under m.lv m.X m.Y c0 := fun hx => hum' (under_same hx e2 e3 e4)
          obtain rfl := e5 hu0
          rcases set_get hc0 with ⟨rfl, _, rfl⟩ | ⟨hi, hc'⟩
          · have hn := hH i n ha (under_self n)
            refine ⟨?_, fun hx => ?_⟩
            · show n.many + 1 = _
              rw [filter_snoc, List.length_append, hn.1]
              have : (more n).has r = true := hr
              rw [if_pos this]; rfl
            · have : n.split = false := hx
              rw [hs] at this; cases this
          · have hcc := hS.cell i c hc'
            have hnr : c.has r = false := by
              rw [Bool.eq_false_iff]
              intro hcr
              have hlv : n.lv < c.lv := by
                rcases Nat.lt_or_ge n.lv c.lv with h | h
                · exact h
                · exfalso
                  obtain ⟨u0, u1, u2⟩ := hu
                  have hl : c.lv = n.lv := by omega
                  rw [hl] at u1 u2
                  simp at u1 u2
                  exact hi (hS.one i a c n hc' ha hl u1 u2)
              exact hum' (under_kid hu hcc.1 hlv hcr m4 hmr)
            have hcA := hH i c hc' hu
            refine ⟨?_, fun hx => ?_⟩
            · rw [filter_snoc, hnr, hcA.1]; simp
            · rw [filter_snoc, hnr, hcA.2 hx]; simp
        · exact absurd (hp.kept.new i c hig hc) hum'
    | false =>
      rw [if_neg (by decide)]
      rw [hs, if_neg (by decide)] at hf
      have hAn := hH a n ha (under_self n)
      have hnl := hAn.2 hs
      by_cases hp : b < n.l.length + 1 ∧ n.lv < 16
      · rw [if_pos hp]
        have hS1 := hS.part ha hs hp.2
        have hH0 : Holds (partN N a n) n.lv n.X n.Y [] := fun i c hc hu => by
          rcases part_get hc with ⟨rfl, rfl⟩ | ⟨hi, hc'⟩ | ⟨q, hq, hi, rfl⟩
          · exact ⟨rfl, fun _ => rfl⟩
          · exact absurd (hS.leaf ha hs hc' hu) hi
          · exact ⟨rfl, fun _ => rfl⟩
        have fold : ∀ (L P : List Rec) (M : List Node), (∀ x ∈ L, n.has x = true) → Put N n.lv n.X n.Y P M → (∃ n', M[a]? = some n' ∧ n'.split = true ∧ n'.lv = n.lv ∧ n'.X = n.X ∧ n'.Y = n.Y) → Put N n.lv n.X n.Y (P ++ L) (L.foldl (fun M x => putV b f M a x) M) := by
          intro L
          induction L with
          | nil => intro P M _ h _; rw [List.append_nil]; exact h
          | cons x L ihL =>
            rintro P M hx h ⟨n', e0, e1, e2, e3, e4⟩
            have hxn : n'.has x = true := by
              have := hx x List.mem_cons_self
              rw [has_iff] at this ⊢
              rw [e2, e3, e4]; exact this
            have hq := ih M a x n' P h.shape e0 hxn (by rw [e1, if_pos rfl, e2]; omega) (by rw [e2, e3, e4]; exact h.holds)
            rw [e2, e3, e4] at hq
            rw [List.foldl_cons, show P ++ x :: L = (P ++ [x]) ++ L by simp]
            refine ihL (P ++ [x]) _ (fun y hy => hx y (List.mem_cons_of_mem _ hy)) ⟨hq.shape, hq.holds, h.kept.trans hq.kept⟩ ?_
            obtain ⟨n2, d1, d2, d3, d4, _, d6⟩ := hq.kept.old a n' e0
            exact ⟨n2, d1, d6 e1, by rw [d2, e2], by rw [d3, e3], by rw [d4, e4]⟩
        have hall : ∀ x ∈ n.l ++ [r], n.has x = true := fun x hx => by
          rw [List.mem_append] at hx
          rcases hx with hx | hx
          · rw [hnl] at hx; exact (List.mem_filter.1 hx).2
          · rw [List.mem_singleton.1 hx]; exact hr
        have h1 := fold (n.l ++ [r]) [] (partN N a n) hall ⟨hS1, hH0, kept_part ha⟩ ⟨_, part_self ha, rfl, rfl, rfl, rfl⟩
        rw [List.nil_append] at h1
        refine ⟨h1.shape, fun i c hc hu => ?_, h1.kept⟩
        have h2 := h1.holds i c hc hu
        have h16 := (h1.shape.cell i c hc).1
        have e : (n.l ++ [r]).filter c.has = (A ++ [r]).filter c.has := by
          rw [hnl, List.filter_append, List.filter_append, filter_in hu h16]
        rw [e] at h2
        exact h2
      · rw [if_neg hp]
        refine ⟨hS.set ha rfl rfl rfl rfl (fun _ => rfl) (fun hx => ?_), fun i c hc hu => ?_, kept_set ha rfl rfl rfl (fun h => h)⟩
        · have : n.split = true := hx
          rw [hs] at this; cases this
        · rcases set_get hc with ⟨rfl, _, rfl⟩ | ⟨hi, hc'⟩
          · have hr' : (addR n r).has r = true := hr
            rw [filter_snoc, if_pos hr']
            have e : A.filter (addR n r).has = A.filter n.has := rfl
            rw [e]
            refine ⟨?_, fun _ => ?_⟩
            · show n.many + 1 = _
              rw [List.length_append, hAn.1]; rfl
            · show n.l ++ [r] = _
              rw [hnl]
          · exact absurd (hS.leaf ha hs hc' hu) hi

/-! ### what the whole tree holds -/
def rootN : List Node := [newLeaf 0 0 0]
theorem root_get {i : Nat} {c : Node} (h : rootN[i]? = some c) : i = 0 ∧ c = newLeaf 0 0 0 := by
  unfold rootN at h
  cases i with
  | zero => cases h; exact ⟨rfl, rfl⟩
  | succ i => simp at h
theorem root_shape : Shape rootN := by
  refine ⟨fun i c hc => ?_, fun i c hc hs => ?_, fun i j c d hc hd _ _ _ => ?_, fun i c hc h0 => ?_⟩
  · obtain ⟨rfl, rfl⟩ := root_get hc; decide
  · obtain ⟨rfl, rfl⟩ := root_get hc; cases hs
  · rw [(root_get hc).1, (root_get hd).1]
  · obtain ⟨rfl, rfl⟩ := root_get hc; cases h0
theorem root_holds : Holds rootN 0 0 0 [] := fun i c hc _ => by
  obtain ⟨rfl, rfl⟩ := root_get hc; exact ⟨rfl, fun _ => rfl⟩
/-- the tree of records that fit -/
structure Tree (N : List Node) (A : List Rec) : Prop where
  shape : Shape N
  holds : Holds N 0 0 0 A
  fit : ∀ r ∈ A, r.fit
  root : ∃ n, N[0]? = some n ∧ n.lv = 0 ∧ n.X = 0 ∧ n.Y = 0
theorem root_tree : Tree rootN [] := ⟨root_shape, root_holds, (fun _ h => by cases h), ⟨_, rfl, rfl, rfl, rfl⟩⟩
/-- the fuel that any putting wants -/
def fuel : Nat := 33
theorem Tree.put {b : Nat} {N : List Node} {A : List Rec} (h : Tree N A) {r : Rec} (hr : r.fit) : Tree (putV b fuel N 0 r) (A ++ [r]) := by
  obtain ⟨n, n1, n2, n3, n4⟩ := h.root
  obtain ⟨r1, r2, r3, r4⟩ := hr
  have hn : n.has r = true := by rw [has_iff, n2, n3, n4, sh_0 r1 r2, sh_0 r3 r4]; exact ⟨rfl, rfl⟩
  have hp := put_ok b fuel N 0 r n A h.shape n1 hn (by unfold fuel; split <;> omega) (by rw [n2, n3, n4]; exact h.holds)
  rw [n2, n3, n4] at hp
  refine ⟨hp.shape, hp.holds, fun x hx => ?_, ?_⟩
  · rw [List.mem_append] at hx
    rcases hx with hx | hx
    · exact h.fit x hx
    · rw [List.mem_singleton.1 hx]; exact ⟨r1, r2, r3, r4⟩
  · obtain ⟨n', a1, a2, a3, a4, _⟩ := hp.kept.old 0 n n1
    exact ⟨n', a1, by omega, by omega, by omega⟩
theorem Tree.under {N : List Node} {A : List Rec} (h : Tree N A) {i : Nat} {n : Node} (hn : N[i]? = some n) : Under 0 0 0 n := by
  obtain ⟨c1, c2, c3, c4, c5⟩ := h.shape.cell i n hn
  unfold Under
  rw [Nat.sub_zero]
  exact ⟨Nat.zero_le _, Int.ediv_eq_zero_of_lt c2 c3, Int.ediv_eq_zero_of_lt c4 c5⟩
theorem Tree.at {N : List Node} {A : List Rec} (h : Tree N A) {i : Nat} {n : Node} (hn : N[i]? = some n) : n.many = (A.filter n.has).length ∧ (n.split = false → n.l = A.filter n.has) := h.holds i n hn (h.under hn)
/-- what a node and all below it have, in whatever part -/
def cntN (p : Rec → Bool) (A : List Rec) (n : Node) : Nat := (A.filter fun r => n.has r && p r).length
theorem cntN_leaf {N : List Node} {A : List Rec} (h : Tree N A) {i : Nat} {n : Node} (hn : N[i]? = some n) (hs : n.split = false) (p : Rec → Bool) : cntN p A n = (n.l.filter p).length := by
  unfold cntN
  rw [(h.at hn).2 hs, List.filter_filter]
  congr 1
  exact List.filter_congr fun r _ => Bool.and_comm _ _
/-- a split node's are its children's -/
theorem cntN_split {N : List Node} {A : List Rec} (h : Tree N A) {i : Nat} {n : Node} (hn : N[i]? = some n) (hs : n.split = true) (p : Rec → Bool) {m0 m1 m2 m3 : Node}
    (h0 : N[(n.kid 0).toNat]? = some m0) (h1 : N[(n.kid 1).toNat]? = some m1) (h2 : N[(n.kid 2).toNat]? = some m2) (h3 : N[(n.kid 3).toNat]? = some m3) :
    cntN p A n = cntN p A m0 + cntN p A m1 + cntN p A m2 + cntN p A m3 := by
  obtain ⟨_, h16, hk⟩ := h.shape.kids i n hn hs
  have kid : ∀ {q : Nat} {m : Node}, q < 4 → N[(n.kid q).toNat]? = some m → m.lv = n.lv + 1 ∧ m.X = 2 * n.X + (q % 2 : Nat) ∧ m.Y = 2 * n.Y + (q / 2 : Nat) := fun {q m} hq hm => by
    obtain ⟨k, m', e1, _, e3, e4, e5, e6⟩ := hk q hq
    rw [e1, Int.toNat_natCast, e3] at hm
    cases hm
    exact ⟨e4, e5, e6⟩
  have a0 := kid (by decide) h0
  have a1 := kid (by decide) h1
  have a2 := kid (by decide) h2
  have a3 := kid (by decide) h3
  have one : ∀ {q : Nat} {m : Node}, q < 4 → (m.lv = n.lv + 1 ∧ m.X = 2 * n.X + (q % 2 : Nat) ∧ m.Y = 2 * n.Y + (q / 2 : Nat)) → ∀ r, m.has r = (n.has r && decide (which n.lv r = q)) := fun {q m} hq hm r => by
    obtain ⟨e1, e2, e3⟩ := hm
    rw [Bool.eq_iff_iff, Bool.and_eq_true, has_iff, has_iff, decide_eq_true_eq, e1, e2, e3]
    have u := sh_up h16 r.x
    have v := sh_up h16 r.y
    rw [← u, ← v]
    unfold which
    generalize sh (n.lv + 1) r.x = x at *
    generalize sh (n.lv + 1) r.y = y at *
    omega
  unfold cntN
  have b0 := one (by decide) a0
  have b1 := one (by decide) a1
  have b2 := one (by decide) a2
  have b3 := one (by decide) a3
  have e1 := filter_two (fun r => m0.has r && p r) (fun r => m1.has r && p r) (fun r => (n.has r && decide (which n.lv r < 2)) && p r) A (fun r _ => by
    have hw := which_lt n.lv r
    have hq : which n.lv r = 0 ∨ which n.lv r = 1 ∨ which n.lv r = 2 ∨ which n.lv r = 3 := by omega
    rw [b0, b1]
    rcases hq with h | h | h | h <;> rw [h] <;> cases n.has r <;> cases p r <;> rfl) (fun r _ hr => by
    rw [b0] at hr; rw [b1]
    simp only [Bool.and_eq_true, decide_eq_true_eq] at hr
    simp [hr.1.2])
  have e2 := filter_two (fun r => m2.has r && p r) (fun r => m3.has r && p r) (fun r => (n.has r && decide (¬ which n.lv r < 2)) && p r) A (fun r _ => by
    have hw := which_lt n.lv r
    have hq : which n.lv r = 0 ∨ which n.lv r = 1 ∨ which n.lv r = 2 ∨ which n.lv r = 3 := by omega
    rw [b2, b3]
    rcases hq with h | h | h | h <;> rw [h] <;> cases n.has r <;> cases p r <;> rfl) (fun r _ hr => by
    rw [b2] at hr; rw [b3]
    simp only [Bool.and_eq_true, decide_eq_true_eq] at hr
    simp [hr.1.2])
  have e3 := filter_two (fun r => (n.has r && decide (which n.lv r < 2)) && p r) (fun r => (n.has r && decide (¬ which n.lv r < 2)) && p r) (fun r => n.has r && p r) A (fun r _ => by
    have hw := which_lt n.lv r
    have hq : which n.lv r = 0 ∨ which n.lv r = 1 ∨ which n.lv r = 2 ∨ which n.lv r = 3 := by omega
    rcases hq with h | h | h | h <;> rw [h] <;> cases n.has r <;> cases p r <;> rfl) (fun r _ hr => by
    simp only [Bool.and_eq_true, decide_eq_true_eq] at hr
    simp [hr.1.2])
  omega
theorem cntN_root {N : List Node} {A : List Rec} (h : Tree N A) {n : Node} (hn : N[0]? = some n) (p : Rec → Bool) : cntN p A n = (A.filter p).length := by
  obtain ⟨m, m1, m2, m3, m4⟩ := h.root
  rw [hn] at m1; cases m1
  unfold cntN
  congr 1
  refine List.filter_congr fun r hr => ?_
  obtain ⟨r1, r2, r3, r4⟩ := h.fit r hr
  have : n.has r = true := by rw [has_iff, m2, m3, m4, sh_0 r1 r2, sh_0 r3 r4]; exact ⟨rfl, rfl⟩
  rw [this]; rfl
theorem cntN_le (p : Rec → Bool) (A : List Rec) (n : Node) : cntN p A n ≤ A.length := List.length_filter_le _ _
theorem cntN_none {N : List Node} {A : List Rec} (h : Tree N A) {i : Nat} {n : Node} (hn : N[i]? = some n) (h0 : n.many = 0) (p : Rec → Bool) : cntN p A n = 0 := by
  have := (h.at hn).1
  rw [h0] at this
  unfold cntN
  rw [List.length_eq_zero_iff, List.filter_eq_nil_iff]
  intro r hr hx
  have h2 := List.eq_nil_of_length_eq_zero this.symm
  rw [List.filter_eq_nil_iff] at h2
  rw [Bool.and_eq_true] at hx
  exact h2 r hr hx.1
theorem cntN_all {N : List Node} {A : List Rec} (h : Tree N A) {i : Nat} {n : Node} (hn : N[i]? = some n) (p : Rec → Bool) (hp : ∀ r, n.has r = true → p r = true) : cntN p A n = n.many := by
  rw [(h.at hn).1]
  unfold cntN
  congr 1
  refine List.filter_congr fun r _ => ?_
  cases hx : n.has r with
  | false => rfl
  | true => rw [hp r hx]; rfl
theorem cntN_out (p : Rec → Bool) (A : List Rec) (n : Node) (hp : ∀ r, n.has r = true → p r = false) : cntN p A n = 0 := by
  unfold cntN
  rw [List.length_eq_zero_iff, List.filter_eq_nil_iff]
  intro r _ hx
  rw [Bool.and_eq_true] at hx
  rw [hp r hx.1] at hx
  cases hx.2

end Go.Proofs.Yteddkgpnklfppaa.Tc
