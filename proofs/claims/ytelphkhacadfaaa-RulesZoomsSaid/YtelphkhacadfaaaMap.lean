/- Maps of whatever elements: what a map's block holds, key by key, as the values themselves. -/
import Derived.Test.YtelphkhacadfaaaBase
import Derived.Maps.OwnSet
namespace Go.Proofs.Ytelphkhacadfaaa
open Go.RowKit Go.Sort Go.Maps

def heldR (v : Value) : Option (DataW Value × List MemPlace) := some (.held v, [])

/-- block b is a map with at most n entries; f says what stands at which key -/
def KMap (P : Program) (K : TypeId) (w : World) (b n : Nat) (f : Lit → Option Value) : Prop :=
  ∃ D : DataW Value, w.ownsMap P K heldR b n D ∧ ∀ l, WideAt.IsKeyLit l → Maps.has D l = (f l).isSome ∧ ∀ z, D.atKey l z = ((f l).map DataW.held).getD z

variable {P : Program} {K : TypeId} {w : World} {b n : Nat} {f : Lit → Option Value}
theorem KMap.made (w : World) (P : Program) (K : TypeId) : KMap P K (w.alloc (.map #[] 0)) w.heap.size 0 (fun _ => none) :=
  ⟨.map [], World.ownsMap_made w P K heldR, fun _ _ => ⟨rfl, fun _ => rfl⟩⟩
theorem KMap.madeAt {k : Nat} (hk : k = w.heap.size) (P : Program) (K : TypeId) : KMap P K (w.alloc (.map #[] 0)) k 0 (fun _ => none) := hk ▸ KMap.made w P K
theorem KMap.lt (h : KMap P K w b n f) : b < w.heap.size := by obtain ⟨D, h1, _⟩ := h; exact h1.lt
theorem KMap.mono (h : KMap P K w b n f) {n' : Nat} (hn : n ≤ n') : KMap P K w b n' f := by obtain ⟨D, h1, h2⟩ := h; exact ⟨D, h1.mono hn, h2⟩
theorem KMap.congr {f' : Lit → Option Value} (h : KMap P K w b n f) (hf : ∀ l, WideAt.IsKeyLit l → f' l = f l) : KMap P K w b n f' := by
  obtain ⟨D, h1, h2⟩ := h; exact ⟨D, h1, fun l hl => by rw [hf l hl]; exact h2 l hl⟩
theorem KMap.block {w' : World} (h : KMap P K w b n f) (hb : w'.heap[b]? = w.heap[b]?) : KMap P K w' b n f := by
  obtain ⟨D, ⟨es, clock, h1, h2⟩, h3⟩ := h
  exact ⟨D, ⟨es, clock, hb.trans h1, h2⟩, h3⟩
theorem KMap.ext {w' : World} (h : KMap P K w b n f) (hb : Below w.heap.size w w') : KMap P K w' b n f := h.block (hb.block b h.lt)
theorem KMap.touch {w' : World} {k : Nat} (h : KMap P K w b n f) (ht : Touch k w w') (hn : b ≠ k) : KMap P K w' b n f := h.block (ht.block b h.lt hn)
theorem KMap.grown {w' : World} {row : Option Nat} (h : KMap P K w b n f) (hg : w.grownBy w' row) (hne : some b ≠ row) : KMap P K w' b n f := h.block (hg.block b h.lt hne)
theorem KMap.drewN (h : KMap P K w b n f) (j : Nat) : KMap P K (w.drewN j) b n f := h.block rfl
theorem KMap.look {t e : TypeId} (h : KMap P K w b n f) (Kd : Keyed P K) (ht : P.underlying t = some (.map K e)) {z : Value} (hz : (zeroValue e).run P w = .ok z w) {key : Value} {kl : Lit} (hkey : keyOf P K key = some kl) (hl : WideAt.IsKeyLit kl) :
    (Instr.lookup t (.map (some b)) key true).run P w = .ok (.tuple #[(f kl).getD z, .bool (f kl).isSome]) w := by
  obtain ⟨D, h1, h2⟩ := h
  obtain ⟨v, ps, hrun, hv⟩ := h1.look_ok Kd ht hz (zd := .held z) (zp := []) rfl hkey
  rw [hrun]
  obtain ⟨a1, a2⟩ := h2 kl hl
  rw [a2] at hv
  rw [a1]
  unfold heldR at hv
  cases hf : f kl with
  | none => rw [hf] at hv; simp at hv; simp [hv.1]
  | some u => rw [hf] at hv; simp at hv; simp [hv.1]
theorem KMap.look1 {t e : TypeId} (h : KMap P K w b n f) (Kd : Keyed P K) (ht : P.underlying t = some (.map K e)) {z : Value} (hz : (zeroValue e).run P w = .ok z w) {key : Value} {kl : Lit} (hkey : keyOf P K key = some kl) (hl : WideAt.IsKeyLit kl) :
    (Instr.lookup t (.map (some b)) key false).run P w = .ok ((f kl).getD z) w := by
  obtain ⟨D, h1, h2⟩ := h
  obtain ⟨v, ps, hrun, hv⟩ := h1.lookup Kd ht hz (zd := .held z) (zp := []) rfl hkey
  rw [hrun]
  obtain ⟨a1, a2⟩ := h2 kl hl
  rw [a2] at hv
  unfold heldR at hv
  cases hf : f kl with
  | none => rw [hf] at hv; simp at hv; simp [hv.1]
  | some u => rw [hf] at hv; simp at hv; simp [hv.1]
theorem KMap.put {t e : TypeId} (h : KMap P K w b n f) (Kd : Keyed P K) (ht : P.underlying t = some (.map K e)) (hn : n < maxLen) {key val : Value} {kl : Lit} (hkey : keyOf P K key = some kl) (hl : WideAt.IsKeyLit kl) :
    ∃ w', (Instr.mapUpdate t (.map (some b)) key val).run P w = .ok () w' ∧ (∀ f' : Lit → Option Value, f' kl = some val → (∀ l, WideAt.IsKeyLit l → l ≠ kl → f' l = f l) → KMap P K w' b (n + 1) f') ∧ w.grownBy w' (some b) := by
  obtain ⟨D, h1, h2⟩ := h
  have hi := h1.isMap
  obtain ⟨w', hrun, r1, r2⟩ := h1.update Kd ht hn hkey (d := .held val) (ps := []) (val := val) rfl
  refine ⟨w', hrun, fun f' hf1 hf2 => ⟨_, r1, fun l hk => ?_⟩, r2⟩
  by_cases he : l = kl
  · subst he
    rw [hf1]
    exact ⟨has_put_same hi hl _, fun z => by rw [atKey_put_same hi hl]; rfl⟩
  · rw [hf2 l hk he]
    exact ⟨by rw [has_put_other he]; exact (h2 l hk).1, fun z => by rw [atKey_put_other he]; exact (h2 l hk).2 z⟩
/-- the law at the operation -/
theorem wpList_put {ops : Array Oper} {rest : List Oper} {o : Oper} {a : Act} {Q : Exit → Act → World → Prop} (hg : o.guard = none) (m x v : Operand) (t : TypeId) (hop : o.op = Op.mapUpdate t m x v ∨ o.op = Op.insert t m x v) (hd : o.dst = none)
    (e : TypeId) (Kd : Keyed P K) (ht : P.underlying t = some (.map K e)) (hm : a.eval m = .map (some b)) (h : KMap P K w b n f) (hn : n < maxLen) (key val : Value) (kl : Lit) (hx : a.eval x = key) (hv : a.eval v = val) (hkey : keyOf P K key = some kl) (hl : WideAt.IsKeyLit kl)
    (hK : ∀ w', (∀ f' : Lit → Option Value, f' kl = some val → (∀ l, WideAt.IsKeyLit l → l ≠ kl → f' l = f l) → KMap P K w' b (n + 1) f') → w.grownBy w' (some b) → wpList P ops Q rest a w') :
    wpList P ops Q (o :: rest) a w := by
  refine wpList_plain hg fun K' hK' => ?_
  obtain ⟨w', hrun, r1, r2⟩ := h.put Kd ht hn (val := val) hkey hl
  unfold Oper.wp
  have he : (execOp a.eval o).run P w = .ok .skip w' := by
    rcases hop with hop | hop <;> simp [execOp, hop, hm, hx, hv, hrun, Result.andThen]
  rw [he, Oper.upon_skip, hd]
  exact hK' _ _ (hK w' r1 r2)
theorem isKey_string (l : List UInt8) : WideAt.IsKeyLit (.string l) := trivial
theorem isKey_int (q : IntKind) (x : Int) : WideAt.IsKeyLit (.int q x) := trivial

end Go.Proofs.Ytelphkhacadfaaa
