/- What was declared, with one declaration more. -/
import Derived.Test.YtelphkhacadfaaaRuJ
namespace Go.Proofs.Ytelphkhacadfaaa
open Go.RowKit Go.Sort Go.Maps

theorem beq_bytes {a b : ByteArray} : (a == b) = true ↔ a = b := by
  obtain ⟨x⟩ := a
  obtain ⟨y⟩ := b
  rw [show ((ByteArray.mk x == ByteArray.mk y) = (x == y)) from rfl, beq_iff_eq]
  simp
theorem declared_snoc (ahead : List Po.Decl) (d : Po.Decl) (k : Int) (nm : ByteArray) : Ru.declared (ahead ++ [d]) k nm = (Ru.declared ahead k nm).or (if d.kind = k ∧ d.name = nm then some d else none) := by
  unfold Ru.declared
  rw [List.find?_append]
  congr 1
  by_cases h : d.kind = k ∧ d.name = nm
  · have e : (d.kind == k && d.name == nm) = true := by rw [Bool.and_eq_true, beq_iff_eq, beq_bytes]; exact h
    rw [if_pos h, List.find?_cons, e]
  · have e : (d.kind == k && d.name == nm) = false := by
      rw [Bool.eq_false_iff]; intro hh
      rw [Bool.and_eq_true, beq_iff_eq, beq_bytes] at hh
      exact h hh
    rw [if_neg h, List.find?_cons, e]; rfl
theorem declared_other {ahead : List Po.Decl} {d : Po.Decl} {k : Int} (hk : d.kind ≠ k) (nm : ByteArray) : Ru.declared (ahead ++ [d]) k nm = Ru.declared ahead k nm := by
  rw [declared_snoc, if_neg (fun h => hk h.1)]; simp
theorem declared_name {ahead : List Po.Decl} {d : Po.Decl} {k : Int} {nm : ByteArray} (hn : d.name ≠ nm) : Ru.declared (ahead ++ [d]) k nm = Ru.declared ahead k nm := by
  rw [declared_snoc, if_neg (fun h => hn h.2)]; simp
theorem declared_this {ahead : List Po.Decl} {d : Po.Decl} (h : Ru.declared ahead d.kind d.name = none) : Ru.declared (ahead ++ [d]) d.kind d.name = some d := by
  rw [declared_snoc, h, if_pos ⟨rfl, rfl⟩]; rfl
theorem numF_other {ahead : List Po.Decl} {d : Po.Decl} {k : Int} (hk : d.kind ≠ k) : numF (ahead ++ [d]) k = numF ahead k := by
  funext l; unfold numF; cases l <;> simp [declared_other hk]
theorem regF_other {ahead : List Po.Decl} {d : Po.Decl} {rg : ByteArray → Value} (hk : d.kind ≠ 3) : regF (ahead ++ [d]) rg = regF ahead rg := by
  funext l; unfold regF; cases l <;> simp [declared_other hk]
theorem key_ne {nm : ByteArray} {t : List UInt8} (h : Lit.string t ≠ .string nm.data.toList) : nm ≠ ⟨t.toArray⟩ := by
  rintro rfl; exact h rfl
theorem numF_this {ahead : List Po.Decl} {d : Po.Decl} (h : Ru.declared ahead d.kind d.name = none) : numF (ahead ++ [d]) d.kind (.string d.name.data.toList) = some (.int .i64 d.n) := by
  unfold numF; simp only [byt]; rw [declared_this h]; rfl
theorem numF_else {ahead : List Po.Decl} {d : Po.Decl} {k : Int} (l : Lit) (h : l ≠ .string d.name.data.toList) : numF (ahead ++ [d]) k l = numF ahead k l := by
  unfold numF
  cases l <;> try rfl
  rename_i t
  simp only
  rw [declared_name (key_ne h)]
/-- the regions, with one more -/
def rgPut (rg : ByteArray → Value) (nm : ByteArray) (v : Value) (x : ByteArray) : Value := if x = nm then v else rg x
theorem regF_this {ahead : List Po.Decl} {d : Po.Decl} {rg : ByteArray → Value} {v : Value} (hk : d.kind = 3) (h : Ru.declared ahead 3 d.name = none) : regF (ahead ++ [d]) (rgPut rg d.name v) (.string d.name.data.toList) = some v := by
  unfold regF; simp only [byt]
  have := declared_this (ahead := ahead) (d := d) (by rw [hk]; exact h)
  rw [hk] at this
  rw [this]; simp [rgPut]
theorem regF_else {ahead : List Po.Decl} {d : Po.Decl} {rg : ByteArray → Value} {v : Value} (l : Lit) (h : l ≠ .string d.name.data.toList) : regF (ahead ++ [d]) (rgPut rg d.name v) l = regF ahead rg l := by
  unfold regF
  cases l <;> try rfl
  rename_i t
  simp only
  have hne := key_ne h
  rw [declared_name hne]
  unfold rgPut
  rw [if_neg (Ne.symm hne)]

section
variable {w w' : World} {bo b1 b2 br c : Nat} {ahead : List Po.Decl} {rules : List Ru.Rule} {rv : Value} {vs : List Value} {rg : ByteArray → Value} {d : Po.Decl}
/-- a declaration that is none of a name -/
theorem Inner.lift (h : Inner w bo b1 b2 br c ahead rules rv vs rg) (h1 : d.kind ≠ 1) (h2 : d.kind ≠ 2) (h3 : d.kind ≠ 3) : Inner w bo b1 b2 br c (ahead ++ [d]) rules rv vs rg := by
  have hl : ahead.length ≤ (ahead ++ [d]).length := by simp
  exact ⟨h.ord, h.outer, by rw [numF_other h1]; exact h.nums1.mono hl, by rw [numF_other h2]; exact h.nums2.mono hl, by rw [regF_other h3]; exact h.regs.mono hl,
    fun nm x hx => h.rows nm x (by rwa [declared_other h3] at hx), h.len, h.own, h.box⟩
/-- one of the maps has grown -/
theorem Inner.num (h : Inner w bo b1 b2 br c ahead rules rv vs rg) {bk : Nat} (hb : bk = b1 ∧ d.kind = 1 ∨ bk = b2 ∧ d.kind = 2) (hn : Ru.declared ahead d.kind d.name = none)
    (hp : ∀ f' : Lit → Option Value, f' (.string d.name.data.toList) = some (.int .i64 d.n) → (∀ l, WideAt.IsKeyLit l → l ≠ .string d.name.data.toList → f' l = numF ahead d.kind l) → KMap Try.prog 9 w' bk (ahead.length + 1) f') (hg : w.grownBy w' (some bk)) :
    Inner w' bo b1 b2 br c (ahead ++ [d]) rules rv vs rg := by
  obtain ⟨o1, o2, o3, o4, o5⟩ := h.ord
  have ht := Touch.of_grown hg
  have hbk : bo < bk ∧ bk < br := by omega
  have hl : ahead.length ≤ (ahead ++ [d]).length := by simp
  have h3 : d.kind ≠ 3 := by omega
  have hm := hp (numF (ahead ++ [d]) d.kind) (numF_this hn) (fun l _ hl => numF_else l hl)
  have hl1 : (ahead ++ [d]).length = ahead.length + 1 := by simp
  refine ⟨⟨o1, o2, o3, o4, Nat.lt_of_lt_of_le o5 ht.size⟩, h.outer.touch ht (by omega), ?_, ?_, by rw [regF_other h3]; exact (h.regs.touch ht (by omega)).mono hl, ?_, h.len, owns_touch h.own ht (by omega), ?_⟩
  · rcases hb with ⟨rfl, hk⟩ | ⟨rfl, hk⟩
    · rw [hl1]; rwa [hk] at hm
    · rw [numF_other (by omega)]; exact (h.nums1.touch ht (by omega)).mono hl
  · rcases hb with ⟨rfl, hk⟩ | ⟨rfl, hk⟩
    · rw [numF_other (by omega)]; exact (h.nums2.touch ht (by omega)).mono hl
    · rw [hl1]; rwa [hk] at hm
  · intro nm x hx
    rw [declared_other h3] at hx
    obtain ⟨r1, r2, r3⟩ := h.rows nm x hx
    exact ⟨r1.touch ht (fun e => by have := (r3 bk e).1; omega), r2, r3⟩
  · intro i r x hr hx
    obtain ⟨r1, r2, r3⟩ := h.box i r x hr hx
    exact ⟨r1.touch ht (fun e => by have := (r3 bk e).1; omega), r2, r3⟩
/-- a region more -/
theorem Inner.reg (h : Inner w bo b1 b2 br c ahead rules rv vs rg) (hk : d.kind = 3) (hn : Ru.declared ahead 3 d.name = none) {v : Value} (hv : Row w v d.boxes.length 4 (boxesCells d.boxes)) (hs : d.boxes.length * 32 ≤ 140737488355328) (hc : ∀ b, v.ownBlock = some b → c < b ∧ rv.ownBlock ≠ some b)
    (hp : ∀ f' : Lit → Option Value, f' (.string d.name.data.toList) = some v → (∀ l, WideAt.IsKeyLit l → l ≠ .string d.name.data.toList → f' l = regF ahead rg l) → KMap Try.prog 9 w' br (ahead.length + 1) f') (hg : w.grownBy w' (some br)) :
    Inner w' bo b1 b2 br c (ahead ++ [d]) rules rv vs (rgPut rg d.name v) := by
  obtain ⟨o1, o2, o3, o4, o5⟩ := h.ord
  have ht := Touch.of_grown hg
  have hl : ahead.length ≤ (ahead ++ [d]).length := by simp
  have hm := hp (regF (ahead ++ [d]) (rgPut rg d.name v)) (regF_this hk hn) (fun l _ hl => regF_else l hl)
  have hl1 : (ahead ++ [d]).length = ahead.length + 1 := by simp
  refine ⟨⟨o1, o2, o3, o4, Nat.lt_of_lt_of_le o5 ht.size⟩, h.outer.touch ht (by omega), by rw [numF_other (by omega)]; exact (h.nums1.touch ht (by omega)).mono hl, by rw [numF_other (by omega)]; exact (h.nums2.touch ht (by omega)).mono hl, by rw [hl1]; exact hm, ?_, h.len, owns_touch h.own ht (by omega), ?_⟩
  · intro nm x hx
    by_cases he : d.name = nm
    · subst he
      have h1 := declared_this (ahead := ahead) (d := d) (by rw [hk]; exact hn)
      rw [hk, hx] at h1
      cases h1
      have h2 : rgPut rg d.name v d.name = v := by simp [rgPut]
      rw [h2]
      exact ⟨hv.touch ht (fun e => by have := (hc br e).1; omega), hs, hc⟩
    · rw [declared_name he] at hx
      have h2 : rgPut rg d.name v nm = rg nm := by simp [rgPut, Ne.symm he]
      rw [h2]
      obtain ⟨r1, r2, r3⟩ := h.rows nm x hx
      exact ⟨r1.touch ht (fun e => by have := (r3 br e).1; omega), r2, r3⟩
  · intro i r x hr hx
    obtain ⟨r1, r2, r3⟩ := h.box i r x hr hx
    exact ⟨r1.touch ht (fun e => by have := (r3 br e).1; omega), r2, r3⟩
end

/-- what one declaration leaves of the checker -/
def CkPost (w : World) (bo b1 b2 br c : Nat) (ahead : List Po.Decl) (d : Po.Decl) (k' : Ru.Ck) (en : Ending) (w' : World) : Prop :=
  en = .returned (.tuple #[]) ∧ Below bo w w' ∧ ∃ ahead' rv', Chk w' bo b1 b2 br c ahead' k' rv' ∧ (k'.f.1 = 0 → ahead' = ahead ++ [d])

end Go.Proofs.Ytelphkhacadfaaa
