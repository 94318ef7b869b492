/-
  What holds of the checker so far as nothing was wrong; the walk of its decl.
  The walk of rules.Check.
  The walk of rules.Read.
  The walk of the laws' known: what must come of fixed calls.
  The walk of the document's own SameRects: rows that are alike.
  The walk of the document's own Same: rows of rules that are alike.
-/
import Derived.Test.YtnoieobjfihbeaaGreatDoorPk22
import Derived.Test.YtnoieobjfihbeaaGreatDoorPk18
import Derived.Test.YtnoieobjfihbeaaGreatDoorPk13
import Derived.Test.YtnoieobjfihbeaaGreatDoorPk19
import Derived.Test.YtnoieobjfihbeaaGreatDoorPk11

namespace Go.Proofs.YtnoieobjfihbeaaGreatDoor.Ru
open Po (Box Who Decl)

/-- nothing was wrong so far -/
structure CkOk (a : List Decl) (k : Ck) : Prop where
  f : k.f = (0, 0, 0)
  good : Good a
  lo : 0 ≤ k.boxes
  hi : k.boxes ≤ 32
  len : k.rules.length ≤ 32
theorem CkOk.begin : CkOk [] ⟨[], 0, (0, 0, 0)⟩ := ⟨rfl, ⟨fun _ h => by simp at h, fun _ h => by simp at h⟩, by decide, by decide, by decide⟩
theorem rrule_boxes {a : List Decl} {d : Decl} {n b : Int} {x : Rule} (h : rrule a d n b = .ok x) : x.boxes = [] ∨ b + x.boxes.length ≤ 32 := by
  unfold rrule at h
  split at h
  · cases h
  · split at h
    · cases h
    · split at h
      · simp only [Except.ok.injEq] at h; rw [← h]; exact .inl rfl
      · split at h
        · cases h
        · split at h
          · cases h
          · split at h
            · cases h
            · split at h
              · cases h
              · split at h
                · cases h
                · rename_i hb _
                  simp only [Except.ok.injEq] at h; rw [← h]; exact .inr (by simp only; omega)
theorem may_label {a : List Decl} (hg : Good a) {d : Decl} (h : may d = true) (hk : 3 < d.kind) (ha : d.label.any = false) : 0 ≤ whoN a 2 d.label := by
  have h6 := may_kind h
  by_cases h4 : d.kind = 4 ∨ d.kind = 5
  · exact whoN_pos hg (.inr rfl) (may_rule h h4).1 ha
  · unfold may at h
    rw [if_neg (by omega), if_neg (by omega), if_neg h4, if_pos (by omega)] at h
    unfold noRule zeroW at h
    simp only [Bool.and_eq_true, beq_iff_eq] at h
    unfold whoN
    rw [if_pos (by have := h.2.1.2.1.2; exact this)]
    have := h.2.1.2.2
    omega
theorem Good.snoc {a : List Decl} {d : Decl} (hg : Good a) (h1 : d.kind = 1 ∨ d.kind = 2 → 0 ≤ d.n ∧ d.n ≤ 7) (h2 : d.kind = 3 → boxesR d.boxes = true) : Good (a ++ [d]) :=
  ⟨fun y hy hk => by
    rcases List.mem_append.1 hy with hy | hy
    · exact hg.num y hy hk
    · rw [List.mem_singleton.1 hy] at hk ⊢; exact h1 hk, fun y hy hk => by
    rcases List.mem_append.1 hy with hy | hy
    · exact hg.reg y hy hk
    · rw [List.mem_singleton.1 hy] at hk ⊢; exact h2 hk⟩
theorem CkOk.decl {a : List Decl} {k : Ck} {d : Decl} (h : CkOk a k) (hm : may d = true) (hf : (ckDecl a k d).f.1 = 0) : CkOk (a ++ [d]) (ckDecl a k d) := by
  have hk := may_kind hm
  have hz : k.f.1 = 0 := by rw [h.f]
  by_cases h3 : 3 < d.kind
  · have he : ckDecl a k d = ckRule a k d := by unfold ckDecl; rw [if_neg (by omega), if_neg (by omega)]
    rw [he] at hf ⊢
    have hr := ckRule_eq a k d h.f h.len
    revert hr
    cases hx : rrule a d k.rules.length k.boxes with
    | error f => intro hr; simp only at hr; exact absurd (hr.1 ▸ hf) hr.2
    | ok x =>
      intro hr
      simp only at hr
      rw [hr.1]
      have hb := rrule_boxes hx
      have := hr.2
      have h1 := h.lo
      have h2 := h.hi
      refine ⟨rfl, h.good.snoc (fun e => by omega) (fun e => by omega), by simp only; omega, ?_, by simp only [List.length_append, List.length_cons, List.length_nil]; omega⟩
      simp only
      rcases hb with hb | hb
      · rw [hb]; simpa using h2
      · exact hb
  · by_cases hk3 : d.kind = 3
    · have he : ckDecl a k d = ckRegion a k d := by unfold ckDecl; rw [if_neg (by omega), if_pos hk3]
      rw [he] at hf ⊢
      unfold ckRegion at hf ⊢
      split at hf
      · rw [wrong_f hz] at hf; simp at hf
      · rename_i hd
        rw [if_neg hd]
        split at hf
        · rename_i hb
          rw [if_pos hb]
          exact ⟨h.f, h.good.snoc (fun e => by omega) (fun _ => hb), h.lo, h.hi, h.len⟩
        · rw [wrong_f hz] at hf; simp at hf
    · have he : ckDecl a k d = ckNumber a k d := by unfold ckDecl; rw [if_pos (by omega)]
      rw [he] at hf ⊢
      unfold ckNumber at hf ⊢
      split at hf
      · rw [wrong_f hz] at hf; simp at hf
      · rename_i hd
        rw [if_neg hd]
        split at hf
        · rw [wrong_f hz] at hf; simp at hf
        · rename_i h7
          rw [if_neg h7]
          exact ⟨h.f, h.good.snoc (fun e => ⟨may_n hm e, by omega⟩) (fun e => absurd e hk3), h.lo, h.hi, h.len⟩
theorem may_region {d : Decl} (h : may d = true) (hk : d.kind = 3) : 0 < d.boxes.length := by
  unfold may at h
  rw [if_neg (by omega), if_pos hk] at h
  unfold boxesN at h
  simp only [Bool.and_eq_true, decide_eq_true_eq] at h
  have := h.1.1.2.2
  omega

end Go.Proofs.YtnoieobjfihbeaaGreatDoor.Ru
namespace Go.Proofs.YtnoieobjfihbeaaGreatDoor
open Go.RowKit Go.Sort Go.Maps

theorem CkPost.shift {w w1 w' : World} {bo b1 b2 br c : Nat} {ahead : List Po.Decl} {d : Po.Decl} {k : Ru.Ck} {en : Ending} (h : CkPost w1 bo b1 b2 br c ahead d k en w') (hb : Below bo w w1) : CkPost w bo b1 b2 br c ahead d k en w' :=
  ⟨h.1, hb.trans h.2.1, h.2.2⟩

set_option maxRecDepth 100000 in
set_option maxHeartbeats 2000000 in
theorem cdecl_any {w : World} {bo b1 b2 br c : Nat} {ahead : List Po.Decl} {k : Ru.Ck} {rv : Value} (h : Chk w bo b1 b2 br c ahead k rv) (ho : Ru.CkOk ahead k) (hl : ahead.length < maxLen) (d : Po.Decl) (x : Value) (hm : Ru.may d = true) (hs : DSmall d) (hx : BRow w x d.boxes) :
    Calls Tryz.prog 64 #[.pointer (some ⟨c, 0, none⟩), .agg (declCells d x)] w (CkPost w bo b1 b2 br c ahead d (Ru.ckDecl ahead k d)) := by
  have hen1 : ∀ (args : Array Value) (w : World), Sem.run Tryz.prog (callFunc 101 args) w = .ok (.enter 101 args) w := fun _ _ => by kernel_rfl
  have hen2 : ∀ (args : Array Value) (w : World), Sem.run Tryz.prog (callFunc 102 args) w = .ok (.enter 102 args) w := fun _ _ => by kernel_rfl
  have hen3 : ∀ (args : Array Value) (w : World), Sem.run Tryz.prog (callFunc 103 args) w = .ok (.enter 103 args) w := fun _ _ => by kernel_rfl
  have hz := balloc w (.cells (declCells d x) 49)
  have h1 := hid (h.ext hz)
  have X1 := hid (hx.ext hz)
  have B0 := hid (Blk.new w (declCells d x) 49)
  have hb : Below bo w (w.alloc (.cells (declCells d x) 49)) := by
    have := h.ord
    exact hz.mono (by omega)
  have hb' := hid hb
  have hh := hid h
  have ho' := hid ho
  have hl' := hid hl
  have hm' := hid hm
  have hs' := hid hs
  have hf : k.f.1 = 0 := by rw [ho.f]
  have hf' := hid hf
  have hkk := Ru.may_kind hm
  have y0 : (declCells d x)[0]? = some (.int .i64 d.kind) := rfl
  clear hz h hx hb ho hl hm hs hf
  by_cases k1 : d.kind = 1
  · have e := hid (show Ru.ckDecl ahead k d = Ru.ckNumber ahead k d by unfold Ru.ckDecl; rw [if_pos (.inl k1)])
    have k1' := hid k1
    have q1 : (d.kind == 1) = true := beq_iff_eq.2 k1
    clear k1
    go_enter Tryz.func64, Tryz.ntmps64
    go_wp2_with (first | (refine wpList_load_blk rfl 49 (.tmp 3) rfl 19 rfl w.heap.size 49 (declCells d x) (B0.out) rfl Tryz.underlying49 rfl (by kernel_rfl) ?_))
    refine (cnumber_any h1.out hf'.out d x (.inl k1'.out) hs'.out.name hl'.out).mono ?_
    intro en w2 hp
    have hp' := hid (hp.shift hb'.out)
    obtain ⟨rfl, _⟩ := hp
    go_wp2_with fail
    go_end0
    rw [e.out]; exact hp'.out
  · have q1 : (d.kind == 1) = false := beq_eq_false_iff_ne.2 k1
    by_cases k2 : d.kind = 2
    · have e := hid (show Ru.ckDecl ahead k d = Ru.ckNumber ahead k d by unfold Ru.ckDecl; rw [if_pos (.inr k2)])
      have k2' := hid k2
      have q2 : (d.kind == 2) = true := beq_iff_eq.2 k2
      clear k2
      go_enter Tryz.func64, Tryz.ntmps64
      go_wp2_with (first | (refine wpList_load_blk rfl 49 (.tmp 3) rfl 19 rfl w.heap.size 49 (declCells d x) (B0.out) rfl Tryz.underlying49 rfl (by kernel_rfl) ?_))
      refine (cnumber_any h1.out hf'.out d x (.inr k2'.out) hs'.out.name hl'.out).mono ?_
      intro en w2 hp
      have hp' := hid (hp.shift hb'.out)
      obtain ⟨rfl, _⟩ := hp
      go_wp2_with fail
      go_end0
      rw [e.out]; exact hp'.out
    · have q2 : (d.kind == 2) = false := beq_eq_false_iff_ne.2 k2
      by_cases k3 : d.kind = 3
      · have e := hid (show Ru.ckDecl ahead k d = Ru.ckRegion ahead k d by unfold Ru.ckDecl; rw [if_neg (by omega), if_pos k3])
        have k3' := hid k3
        have q3 : (d.kind == 3) = true := beq_iff_eq.2 k3
        clear k3
        go_enter Tryz.func64, Tryz.ntmps64
        go_wp2_with (first | (refine wpList_load_blk rfl 49 (.tmp 3) rfl 19 rfl w.heap.size 49 (declCells d x) (B0.out) rfl Tryz.underlying49 rfl (by kernel_rfl) ?_))
        refine (cregion_any h1.out hf'.out d x k3'.out hs'.out.name hl'.out (X1.out.pos (Ru.may_region hm'.out k3'.out)) (Ru.may_region hm'.out k3'.out) hs'.out.boxes).mono ?_
        intro en w2 hp
        have hp' := hid (hp.shift hb'.out)
        obtain ⟨rfl, _⟩ := hp
        go_wp2_with fail
        go_end0
        rw [e.out]; exact hp'.out
      · have e := hid (show Ru.ckDecl ahead k d = Ru.ckRule ahead k d by unfold Ru.ckDecl; rw [if_neg (by omega), if_neg k3])
        have q3 : (d.kind == 3) = false := beq_eq_false_iff_ne.2 k3
        have k4 : 3 < d.kind := by omega
        have hp1 := hid (fun ha => Ru.whoN_pos ho'.out.good (k := 1) (.inl rfl) (Ru.may_role hm'.out k4) ha)
        have hp2 := hid (Ru.may_label ho'.out.good hm'.out k4)
        go_enter Tryz.func64, Tryz.ntmps64
        go_wp2_with (first | (refine wpList_load_blk rfl 49 (.tmp 3) rfl 19 rfl w.heap.size 49 (declCells d x) (B0.out) rfl Tryz.underlying49 rfl (by kernel_rfl) ?_))
        refine (crule_any h1.out hf'.out ⟨ho'.out.lo, ho'.out.hi⟩ ho'.out.len d x k1 k2 k3 hs'.out.role hs'.out.label hs'.out.place hp1.out hp2.out).mono ?_
        intro en w2 hp
        have hp' := hid (hp.shift hb'.out)
        obtain ⟨rfl, _⟩ := hp
        go_wp2_with fail
        go_end0
        rw [e.out]; exact hp'.out

end Go.Proofs.YtnoieobjfihbeaaGreatDoor

namespace Go.Proofs.YtnoieobjfihbeaaGreatDoor
open Go.RowKit Go.Sort Go.Maps

/-- all blocks behind block B are as they were -/
structure Above (B : Nat) (w w' : World) : Prop where
  size : w.heap.size ≤ w'.heap.size
  block : ∀ k, B < k → k < w.heap.size → w'.heap[k]? = w.heap[k]?
theorem Above.refl (B : Nat) (w : World) : Above B w w := ⟨Nat.le_refl _, fun _ _ _ => rfl⟩
theorem Above.trans {B : Nat} {x y z : World} (h : Above B x y) (k : Above B y z) : Above B x z :=
  ⟨Nat.le_trans h.size k.size, fun i hi hn => (k.block i hi (Nat.lt_of_lt_of_le hn h.size)).trans (h.block i hi hn)⟩
theorem Above.mono {B B' : Nat} {x y : World} (h : Above B x y) (hb : B ≤ B') : Above B' x y := ⟨h.size, fun k hk => h.block k (by omega)⟩
theorem Above.touch {B b : Nat} {x y : World} (h : Touch b x y) (hb : b ≤ B) : Above B x y := ⟨h.size, fun k hk hn => h.block k hn (by omega)⟩
theorem Above.below {B : Nat} {x y : World} (h : Below x.heap.size x y) : Above B x y := ⟨h.size, fun k _ hn => h.block k hn⟩
theorem Row.same {w w' : World} {v : Value} {n size : Nat} {xs : List Value} (h : Row w v n size xs) (hs : w.heap.size ≤ w'.heap.size) (hb : ∀ b, v.ownBlock = some b → w'.heap[b]? = w.heap[b]?) : Row w' v n size xs := by
  refine ⟨h.1, ?_⟩
  rcases h.2 with h2 | ⟨g, off, cap, hv, hn, hg, hc⟩
  · exact .inl h2
  · have hg' := hb g (by rw [hv]; rfl)
    exact .inr ⟨g, off, cap, hv, hn, Nat.lt_of_lt_of_le hg hs, fun j u hj => (World.cell?_of_block (w := w) (a := ⟨g, off + j, none⟩) hg').trans (hc j u hj)⟩
/-- what Check returns; B: all that it made lies behind block B -/
def CheckPost (B : Nat) (l : List Po.Decl) (e : Ending) (w' : World) : Prop :=
  match Ru.checkV l with
  | .ok rs => ∃ v, e = .returned (.tuple #[v, .agg #[.int .i64 0, .int .i64 0, .int .i64 0]]) ∧ (∀ w'', Above B w' w'' → RSl w'' v rs) ∧ rs.length ≤ 33
  | .error (er, x, y) => e = .returned (.tuple #[.slice none 0 0, .agg #[.int .i64 er, .int .i64 x, .int .i64 y]])
theorem rsl_of {w : World} {rules : List Ru.Rule} {rv : Value} {vs : List Value} (hlen : vs.length = rules.length) (hrow : Row w rv rules.length 7 (rulesCells rules vs))
    (hbox : ∀ (i : Nat) r x, rules[i]? = some r → vs[i]? = some x → Row w x r.boxes.length 4 (boxesCells r.boxes) ∧ r.boxes.length * 32 ≤ 140737488355328) : RSl w rv rules := by
  have hz : (rules.zip vs).length = rules.length := by rw [List.length_zip, hlen]; omega
  have hr : Row w rv (rules.zip vs).length 7 ((rules.zip vs).flatMap fun p => (ruleArr p.1 p.2).toList) := by rw [hz]; exact hrow
  rcases srow_of (f := fun p : Ru.Rule × Value => ruleArr p.1 p.2) (fun _ _ => rfl) hr with ⟨hv, h0⟩ | ⟨g, off, cap, hv, hs⟩
  · refine .inl ⟨hv, ?_⟩
    have : rules.length = 0 := by rw [← hz, h0]; rfl
    exact List.eq_nil_of_length_eq_zero this
  · rw [hz] at hv
    refine .inr ⟨g, off, cap, hv, by have := hs.cap; omega, hs.lt, fun i hi => ?_⟩
    have hi2 : i < vs.length := by rw [hlen]; exact hi
    have h1 := hs.get i (by omega)
    rw [List.getElem_zip] at h1
    have h2 := hbox i _ _ (List.getElem?_eq_getElem hi) (List.getElem?_eq_getElem hi2)
    exact ⟨vs[i], h1, h2.1.b, by have := h2.2; omega⟩
theorem Inner.rsl {w w' : World} {bo b1 b2 br c B : Nat} {ahead : List Po.Decl} {rules : List Ru.Rule} {rv : Value} {vs : List Value} {rg : ByteArray → Value} (h : Inner w bo b1 b2 br c ahead rules rv vs rg) (ha : Above B w w') (hB : B < bo) : RSl w' rv rules := by
  obtain ⟨o1, o2, o3, o4, o5⟩ := h.ord
  have hrow := Row.of_owns h.own
  refine rsl_of h.len (hrow.same ha.size (fun b hb => ha.block b (by have := (h.own.lt b hb).1; omega) (h.own.lt b hb).2)) (fun i r x hr hx => ?_)
  obtain ⟨r1, r2, r3⟩ := h.box i r x hr hx
  exact ⟨r1.same ha.size (fun b hb => ha.block b (by have := (r3 b hb).1; omega) (r1.own_lt hb)), r2⟩

def one1 (b1 : Nat) : Lit → Option Value
  | .int .i64 x => if x = 1 then some (.map (some b1)) else none
  | _ => none
theorem one1_none {b1 : Nat} {l : Lit} (h : l ≠ .int .i64 1) : one1 b1 l = none := by
  unfold one1
  split
  · rename_i x
    rw [if_neg (fun e => h (by rw [e]))]
  · rfl
theorem outF_one {b1 b2 : Nat} {l : Lit} (h : l ≠ .int .i64 2) : outF b1 b2 l = one1 b1 l := by
  by_cases hx : ∃ x, l = .int .i64 x
  · obtain ⟨x, rfl⟩ := hx
    unfold outF one1
    have h2 : x ≠ 2 := fun e => h (by rw [e])
    simp only [h2, if_false]
  · have e1 : outF b1 b2 l = none := by
      unfold outF
      split
      · rename_i x; exact absurd ⟨x, rfl⟩ hx
      · rfl
    have e2 : one1 b1 l = none := by
      unfold one1
      split
      · rename_i x; exact absurd ⟨x, rfl⟩ hx
      · rfl
    rw [e1, e2]
theorem numF_nil (k : Int) : numF [] k = fun _ => none := by funext l; unfold numF; cases l <;> rfl
theorem regF_nil (rg : ByteArray → Value) : regF [] rg = fun _ => none := by funext l; unfold regF; cases l <;> rfl
theorem chk_made {w1 w3 w5 : World} (hg3 : ((w1.alloc (.map #[] 0)).alloc (.map #[] 0)).grownBy w3 (some w1.heap.size)) (hg5 : (w3.alloc (.map #[] 0)).grownBy w5 (some w1.heap.size)) (hK : KMap Tryz.prog 3 w5 w1.heap.size 2 (outF (w1.heap.size + 1) w3.heap.size)) :
    Chk ((w5.alloc (.map #[] 0)).alloc (.cells (ckCells w1.heap.size w5.heap.size ⟨[], 0, (0, 0, 0)⟩ (.slice none 0 0)) 123)) w1.heap.size (w1.heap.size + 1) w3.heap.size w5.heap.size (w5.heap.size + 1) [] ⟨[], 0, (0, 0, 0)⟩ (.slice none 0 0) ∧
      Below w1.heap.size w1 ((w5.alloc (.map #[] 0)).alloc (.cells (ckCells w1.heap.size w5.heap.size ⟨[], 0, (0, 0, 0)⟩ (.slice none 0 0)) 123)) := by
  have s3 := hg3.size
  have s5 := hg5.size
  simp only [World.size_alloc] at s3 s5
  have z1 := balloc w5 (.map #[] 0)
  have z2 := balloc (w5.alloc (.map #[] 0)) (.cells (ckCells w1.heap.size w5.heap.size ⟨[], 0, (0, 0, 0)⟩ (.slice none 0 0)) 123)
  refine ⟨⟨Blk.newAt (by simp) _ _, [], fun _ => .slice none 0 0, ⟨by omega, by omega, by omega, by omega, by simp only [World.size_alloc]; omega⟩, (hK.ext z1).ext z2, ?_, ?_, ?_, fun nm d hd => by simp [Ru.declared] at hd, rfl, World.ownsRow_nil _ _ _ _, fun i r x hr => by simp at hr⟩, ?_⟩
  · rw [numF_nil]
    exact (((((KMap.madeAt (w := w1.alloc (.map #[] 0)) (k := w1.heap.size + 1) (by simp) Tryz.prog 9).grown hg3 (by simp)).ext (balloc w3 _)).grown hg5 (by simp)).ext z1).ext z2
  · rw [numF_nil]
    exact (((KMap.made w3 Tryz.prog 9).grown hg5 (by simp; omega)).ext z1).ext z2
  · rw [regF_nil]
    exact (KMap.made w5 Tryz.prog 9).ext z2
  · have q1 : Below w1.heap.size w1 ((w1.alloc (.map #[] 0)).alloc (.map #[] 0)) := bthen (balloc w1 _) (balloc _ _)
    have q3 := q1.grown hg3 (by simp only [World.size_alloc]; omega) (fun k hk => by simp at hk; omega)
    have q5 := (q3.alloc (by omega) (.map #[] 0)).grown hg5 (by simp only [World.size_alloc]; omega) (fun k hk => by simp at hk; omega)
    exact (q5.alloc (by omega) _).alloc (by simp only [World.size_alloc]; omega) _
theorem run_fault {a : List Po.Decl} {k : Ru.Ck} {d : Po.Decl} {r : List Po.Decl} (h : (Ru.ckDecl a k d).f.1 ≠ 0) : Ru.ckRun a (d :: r) k = .error (Ru.ckDecl a k d).f := by unfold Ru.ckRun; rw [if_neg h]
theorem run_on {a : List Po.Decl} {k : Ru.Ck} {d : Po.Decl} {r : List Po.Decl} (h : (Ru.ckDecl a k d).f.1 = 0) : Ru.ckRun a (d :: r) k = Ru.ckRun (a ++ [d]) r (Ru.ckDecl a k d) := by
  conv => lhs; unfold Ru.ckRun
  rw [if_pos h]
theorem run_end (a : List Po.Decl) (k : Ru.Ck) : Ru.ckRun a [] k = .ok k.rules := by unfold Ru.ckRun; rfl

set_option maxRecDepth 100000 in
set_option maxHeartbeats 4000000 in
theorem check_bad {w : World} {v : Value} {l : List Po.Decl} (h : DSl w v l) (hn : l.length ≤ 140737488355328) (hs : ∀ d ∈ l, DSmall d) (ha : l.all Ru.may = false) :
    Calls Tryz.prog 27 #[v] w fun e w' => CheckPost w.heap.size l e w' ∧ Below w.heap.size w w' := by
  have hz := balloc w (.cells #[.int .i64 0, .int .i64 0, .int .i64 0] 27)
  have hd := hid (h.ext hz)
  have hs' := hid hs
  have Q0 := hid hz
  have B0 := hid (Blk.new w #[.int .i64 0, .int .i64 0, .int .i64 0] 27)
  have e := hid (show Ru.checkV l = .error (1, 0, 0) by unfold Ru.checkV; rw [ha]; rfl)
  have hn1 := Nat.le_refl w.heap.size
  clear hz h hs
  go_enter Tryz.func27, Tryz.ntmps27
  go_wp2_with fail
  refine (pright_any hd.out hn hs'.out).mono ?_
  rw [ha]
  rintro en w1 ⟨rfl, hb1⟩
  have Q1 := hid (bthen Q0.out hb1)
  have B1 := hid (B0.out.ext hb1)
  obtain ⟨d0, d1, d2, df, dz⟩ := B1.out.three
  clear hb1
  go_wp2_with fail
  refine bodyPost_ret (v := .tuple #[.slice none 0 0, .agg #[.int .i64 1, .int .i64 0, .int .i64 0]]) (by simp [results, Tryz.results27, go_sem, d0, d1, d2]) rfl ⟨?_, (by simp only [below_setNew_iff hn1]; exact Q1.out)⟩
  unfold CheckPost
  rw [e.out]

set_option maxRecDepth 100000 in
set_option maxHeartbeats 4000000 in
theorem check_good_any {w : World} {v : Value} {l : List Po.Decl} (h : DSl w v l) (hn : l.length ≤ 140737488355328) (hs : ∀ d ∈ l, DSmall d) (ha : l.all Ru.may = true) :
    Calls Tryz.prog 27 #[v] w fun e w' => CheckPost w.heap.size l e w' ∧ Below w.heap.size w w' := by
  have hz := balloc w (.cells #[.int .i64 0, .int .i64 0, .int .i64 0] 27)
  have hd := hid (h.ext hz)
  have hs' := hid hs
  have Q0 := hid hz
  have B0 := hid (Blk.new w #[.int .i64 0, .int .i64 0, .int .i64 0] 27)
  have e := hid (show Ru.checkV l = Ru.ckRun [] l ⟨[], 0, (0, 0, 0)⟩ by unfold Ru.checkV; rw [ha]; rfl)
  have hn1 := Nat.le_refl w.heap.size
  have ha' := hid ha
  obtain ⟨vp, vc, rfl⟩ := h.shape
  have hds := hid h
  clear hz h hs
  go_enter Tryz.func27, Tryz.ntmps27
  go_wp2_with fail
  refine (pright_any hd.out hn hs'.out).mono ?_
  rw [ha]
  rintro en w1 ⟨rfl, hb1⟩
  have Q1 := hid (bthen Q0.out hb1)
  have B1 := hid (B0.out.ext hb1)
  have D1 := hid (hd.out.ext hb1)
  clear hb1 ha
  have hmm : ∀ (t : TypeId) (w : World), (Instr.makeMap t none).run Tryz.prog w = .ok (.map (some w.heap.size)) (w.alloc (.map #[] 0)) := fun _ _ => rfl
  have K0 := hid ((KMap.made w1 Tryz.prog 3).ext (balloc (w1.alloc (.map #[] 0)) (.map #[] 0)))
  have M0 := hid (KMap.madeAt (w := w1.alloc (.map #[] 0)) (k := w1.heap.size + 1) (by simp) Tryz.prog 9)
  go_wp2_with (first
    | (refine wpList_put rfl (.tmp 11) (.const (.int .i64 1)) (.tmp 12) 120 (.inr rfl) rfl 119 lawI Tryz.underlying120 rfl K0.out (by unfold maxLen; omega) (.int .i64 1) (.map (some (w1.heap.size + 1))) (.int .i64 1) rfl rfl (keyI (.inl rfl)) trivial ?_
       intro w3 hput3 hg3
       have K1 := hid ((hput3 (one1 (w1.heap.size + 1)) rfl (fun l _ hl => one1_none hl)).ext (balloc w3 (.map #[] 0)))
       have hg3' := hid hg3
       clear hput3 hg3)
    | (refine wpList_put rfl (.tmp 11) (.const (.int .i64 2)) (.tmp 13) 120 (.inr rfl) rfl 119 lawI Tryz.underlying120 rfl K1.out (by unfold maxLen; omega) (.int .i64 2) (.map (some w3.heap.size)) (.int .i64 2) rfl rfl (keyI (.inr rfl)) trivial ?_
       intro w5 hput5 hg5
       have K2 := hid (hput5 (outF (w1.heap.size + 1) w3.heap.size) rfl (fun l _ hl => outF_one hl))
       have hg5' := hid hg5
       clear hput5 hg5))
  obtain ⟨hC, hBl⟩ := chk_made hg3'.out hg5'.out K2.out
  have hfb := B1.out.lt
  have hw1 := Q1.out.size
  have hC' := hid hC
  have hQl := hid (show Below w.heap.size w _ from Q1.out.trans (hBl.mono hw1))
  have hFl := hid (B1.out.below hBl hfb)
  clear hC hBl K2 K1 K0 M0 hg3' hg5' hmm hd B0 Q0 D1
  unfold ckCells at hC' hQl hFl
  generalize hbo : w1.heap.size = bo at *
  generalize hb2 : w3.heap.size = b2 at *
  generalize hbr : w5.heap.size = br at *
  clear hbo hb2 hbr
  go_loopw [20] (fun u wr => ∃ (i : Nat) (k : Ru.Ck) (rv : Value), u = .int .i64 i ∧ i ≤ l.length ∧ Chk wr bo (bo + 1) b2 br (br + 1) (l.take i) k rv ∧ Ru.CkOk (l.take i) k ∧ Ru.checkV l = Ru.ckRun (l.take i) (l.drop i) k ∧
    Blk wr w.heap.size #[.int .i64 0, .int .i64 0, .int .i64 0] 27 ∧ Below w.heap.size w wr) (fun u _ => l.length - (intOf u).toNat)
  case atStart => exact ⟨0, ⟨[], 0, (0, 0, 0)⟩, .slice none 0 0, rfl, Nat.zero_le _, hC'.out, Ru.CkOk.begin, e.out, hFl.out, hQl.out⟩
  case round =>
    obtain ⟨i, k, rv, rfl, hle, hC, hO, hV, hF, hQ⟩ := hrel
    have hC1 := hid hC
    have hO1 := hid hO
    have hV1 := hid hV
    have hF1 := hid hF
    have hQ1 := hid hQ
    clear hC hO hV hF hQ
    have hclt := hC1.out.blk.lt
    have hcord := hC1.out.ord
    by_cases hlt : i < l.length
    · rcases hds.out with ⟨_, h0⟩ | ⟨g, off, cap, hv, hr⟩
      · rw [h0] at hlt; simp at hlt
      cases hv
      obtain ⟨x, hx⟩ := hr.at hQ1.out hlt
      have hx' := hid hx
      have hsm := hid (hs'.out _ (List.getElem_mem hlt))
      have hmay := hid (List.all_eq_true.1 ha'.out _ (List.getElem_mem hlt))
      have htk := hid (show l.take (i + 1) = l.take i ++ [l[i]] from (List.take_append_getElem hlt).symm)
      have hdr := hid (show l.drop i = l[i] :: l.drop (i + 1) from List.drop_eq_getElem_cons hlt)
      generalize l[i] = d at *
      clear hx hr
      have hlen : (l.take i).length < maxLen := by rw [List.length_take]; unfold maxLen; omega
      have hz := balloc wr (.cells (declCells d x) 49)
      have C2 := hid (hC1.out.ext hz)
      have X2 := hid (hx'.out.box.ext hz)
      have F2 := hid (hF1.out.ext hz)
      have Q2 := hid (hQ1.out.trans (hz.mono hQ1.out.size))
      clear hz
      go_wp2_with (first | (refine wpList_load_at rfl 49 (.tmp 22) rfl 23 rfl g (off + i * 24) (declCells d x) (hx'.out.at_) rfl Tryz.underlying49 rfl (by kernel_rfl) ?_) | (refine wpList_store_new rfl 49 (.tmp 6) (.tmp 23) rfl rfl wr 49 _ (declCells d x) rfl rfl rfl (by kernel_rfl) rfl (hx'.out.one) ?_) | (refine wpList_load_blk rfl 49 (.tmp 6) rfl 25 rfl wr.heap.size 49 (declCells d x) (Blk.new wr _ _) rfl Tryz.underlying49 rfl (by kernel_rfl) ?_))
      refine (cdecl_any C2.out hO1.out hlen d x hmay.out hsm.out X2.out).mono ?_
      rintro en w6 ⟨rfl, hb6, ahead', rv', hC6, ha6⟩
      have C6 := hid hC6
      have A6 := hid ha6
      have Q6 := hid (show Below w.heap.size w w6 from Q2.out.trans (hb6.mono (by omega)))
      have F6 := hid (F2.out.below hb6 (by omega))
      obtain ⟨c0, c1, c2, c3, c4, c5, c6, cf, clt⟩ := hC6.f
      clear hC6 ha6 hb6
      by_cases hf0 : (Ru.ckDecl (l.take i) k d).f.1 = 0
      · have hz0 := hf0
        have O6 := hid (hO1.out.decl hmay.out hf0)
        have V6 := hid (hV1.out.trans (by rw [hdr.out, run_on hf0, ← htk.out]))
        have hah := A6.out hf0
        rw [hf0] at c4
        have hf0' := hid hf0
        clear hf0 hz0
        go_wp2_with fail
        go_roundw
        case rel => exact ⟨i + 1, _, rv', by go_num, by omega, by rw [htk.out, ← hah]; exact C6.out, by rw [htk.out]; exact O6.out, V6.out, F6.out, Q6.out⟩
        case measure => simp [intOf]; omega
      · have V6 := hid (hV1.out.trans (by rw [hdr.out, run_fault hf0]))
        generalize (Ru.ckDecl (l.take i) k d).f = ff at *
        obtain ⟨fe, fl, fp⟩ := ff
        simp only at c4 c5 c6 hf0
        have e2 : (fe != 0) = true := by rw [bne_iff_ne]; exact hf0
        obtain ⟨d0, d1, d2, df, dz⟩ := F6.out.three
        have nfc : w.heap.size ≠ br + 1 := by omega
        have ncf : br + 1 ≠ w.heap.size := by omega
        go_wp2_with fail
        go_region_held3 (fun w' => w'.cell? ⟨br + 1, 4, none⟩ = some (.int .i64 fe) ∧ w'.cell? ⟨br + 1, 4 + 1, none⟩ = some (.int .i64 fl) ∧ w'.cell? ⟨br + 1, 4 + 1 + 1, none⟩ = some (.int .i64 fp)) (go_keep) (first | fail)
        go_wp2_with fail
        refine bodyPost_ret (v := .tuple #[.slice none 0 0, .agg #[.int .i64 fe, .int .i64 fl, .int .i64 fp]]) (by simp [results, Tryz.results27, go_sem, d0, d1, d2]) rfl ⟨?_, (by simp only [below_setNew_iff hn1, below_drew_iff]; exact Q6.out)⟩
        unfold CheckPost
        rw [V6.out]
    · obtain rfl : i = l.length := by omega
      have V6 := hid (hV1.out.trans (by rw [List.drop_length, run_end]))
      obtain ⟨c0, c1, c2, c3, c4, c5, c6, cf, clt⟩ := hC1.out.f
      obtain ⟨d0, d1, d2, df, dz⟩ := hF1.out.three
      have nfc : w.heap.size ≠ br + 1 := by omega
      have ncf : br + 1 ≠ w.heap.size := by omega
      obtain ⟨vs, rg, hi⟩ := hC1.out.inn
      have hi' := hid hi
      clear hi
      go_wp2_with fail
      refine bodyPost_ret (v := .tuple #[rv, .agg #[.int .i64 0, .int .i64 0, .int .i64 0]]) (by simp [results, Tryz.results27, go_sem, d0, d1, d2]) rfl ⟨?_, (by simp only [below_setNew_iff hn1]; exact hQ1.out)⟩
      unfold CheckPost
      rw [V6.out]
      have ht := ((((Touch.refl w.heap.size wr).setCell 0 (.int .i64 0)).setCell 1 (.int .i64 0)).setCell (1 + 1) (.int .i64 0))
      exact ⟨rv, rfl, fun w'' ha => hi'.out.rsl ((Above.touch ht (Nat.le_refl _)).trans ha) hfb, by have := hO1.out.len; omega⟩

theorem check_any {w : World} {v : Value} {l : List Po.Decl} (h : DSl w v l) (hn : l.length ≤ 140737488355328) (hs : ∀ d ∈ l, DSmall d) :
    Calls Tryz.prog 27 #[v] w fun e w' => CheckPost w.heap.size l e w' ∧ Below w.heap.size w w' := by
  cases ha : l.all Ru.may with
  | true => exact check_good_any h hn hs ha
  | false => exact check_bad h hn hs ha

end Go.Proofs.YtnoieobjfihbeaaGreatDoor

namespace Go.Proofs.YtnoieobjfihbeaaGreatDoor
open Go.RowKit Go.Sort Go.Maps

def ReadPost (B : Nat) (L : Lx.Bytes) (e : Ending) (w' : World) : Prop :=
  match Po.parse L with
  | .ok ds => CheckPost B ds e w'
  | .error (er, l, c) => e = .returned (.tuple #[.slice none 0 0, .agg #[.int .i64 er, .int .i64 l, .int .i64 c]]) ∧ er ≠ 0
set_option maxRecDepth 100000 in
set_option maxHeartbeats 4000000 in
theorem read_any (s : ByteArray) (w : World) (hs : s.size ≤ 140737488355328) :
    Calls Tryz.prog 11 #[.string s] w fun e w' => ReadPost w.heap.size s.data.toList e w' ∧ Below w.heap.size w w' := by
  have hn1 := Nat.le_refl w.heap.size
  have hpa := parse_any s (w.alloc (.cells #[.int .i64 0, .int .i64 0, .int .i64 0] 27)) hs
  unfold ParsePost at hpa
  have hz1 := balloc w (.cells #[.int .i64 0, .int .i64 0, .int .i64 0] 27)
  have Q0 := hid hz1
  have B0 := hid (Blk.new w #[.int .i64 0, .int .i64 0, .int .i64 0] 27)
  clear hz1
  cases hp : Po.parse s.data.toList with
  | error f =>
    obtain ⟨er, l, c⟩ := f
    rw [hp] at hpa
    have hpa' := hid hpa
    have hp' := hid hp
    clear hpa hp
    go_enter Tryz.func11, Tryz.ntmps11
    go_wp2_with fail
    refine hpa'.out.mono ?_
    rintro e w1 ⟨⟨rfl, her⟩, hb1⟩
    have hsz := hb1.size
    simp only [World.size_alloc] at hsz
    have Q1 := hid (bthen Q0.out hb1)
    have B1 := hid (B0.out.ext hb1)
    have hne : w.heap.size ≠ w1.heap.size := by omega
    have hne' : w1.heap.size ≠ w.heap.size := by omega
    have hn2 : w.heap.size ≤ w1.heap.size := by omega
    have C1 := hid (Blk.new w1 #[.int .i64 er, .int .i64 l, .int .i64 c] 27)
    have B2 := hid (B1.out.ext (balloc w1 (.cells #[.int .i64 er, .int .i64 l, .int .i64 c] 27)))
    have Q2 := hid (bthen Q1.out (balloc w1 (.cells #[.int .i64 er, .int .i64 l, .int .i64 c] 27)))
    obtain ⟨d0, d1, d2, df, dz⟩ := B2.out.three
    have h0 : ((er : Int) != 0) = true := by rw [bne_iff_ne]; omega
    go_wp2_with fail
    go_region_held3 (fun w' => w'.cell? ⟨w1.heap.size, 0, none⟩ = some (.int .i64 er) ∧ w'.cell? ⟨w1.heap.size, 1, none⟩ = some (.int .i64 l) ∧ w'.cell? ⟨w1.heap.size, 1 + 1, none⟩ = some (.int .i64 c)) (go_keep) (first | fail)
    go_wp2_with fail
    refine bodyPost_ret (v := .tuple #[.slice none 0 0, .agg #[.int .i64 er, .int .i64 l, .int .i64 c]]) (by simp [results, Tryz.results11, go_sem, d0, d1, d2]) rfl ⟨?_, (by simp only [below_setNew_iff hn1, below_drew_iff]; exact Q2.out)⟩
    unfold ReadPost
    rw [hp'.out]
    exact ⟨rfl, her⟩
  | ok ds =>
    rw [hp] at hpa
    have hpa' := hid hpa
    have hp' := hid hp
    obtain ⟨hlen, hsm⟩ := Po.parse_small hp
    have hsm' := hid (fun d hd => DSmall.of (hsm d hd))
    clear hpa hp hsm
    go_enter Tryz.func11, Tryz.ntmps11
    go_wp2_with fail
    refine hpa'.out.mono ?_
    rintro e w1 ⟨⟨v, vs, rfl, hds⟩, hb1⟩
    have hsz := hb1.size
    simp only [World.size_alloc] at hsz
    have Q1 := hid (bthen Q0.out hb1)
    have B1 := hid (B0.out.ext hb1)
    have hne : w.heap.size ≠ w1.heap.size := by omega
    have hne' : w1.heap.size ≠ w.heap.size := by omega
    have B2 := hid (B1.out.ext (balloc w1 (.cells #[.int .i64 0, .int .i64 0, .int .i64 0] 27)))
    have Q2 := hid (bthen Q1.out (balloc w1 (.cells #[.int .i64 0, .int .i64 0, .int .i64 0] 27)))
    have D2 := hid (hds.sl.ext (balloc w1 (.cells #[.int .i64 0, .int .i64 0, .int .i64 0] 27)))
    clear hds hb1
    go_wp2_with fail
    have hck := check_any D2.out (by omega) hsm'.out
    unfold CheckPost at hck
    cases hc : Ru.checkV ds with
    | ok rs =>
      rw [hc] at hck
      refine hck.mono ?_
      rintro e w3 ⟨⟨v3, rfl, hr3, hl3⟩, hb3⟩
      have Q3 := hid (bthen Q2.out hb3)
      have B3 := hid (B2.out.ext hb3)
      have R3 := hid hr3
      obtain ⟨d0, d1, d2, df, dz⟩ := B3.out.three
      clear hr3 hb3 hck
      go_wp2_with fail
      refine bodyPost_ret (v := .tuple #[v3, .agg #[.int .i64 0, .int .i64 0, .int .i64 0]]) (by simp [results, Tryz.results11, go_sem, d0, d1, d2]) rfl ⟨?_, (by simp only [below_setNew_iff hn1]; exact Q3.out)⟩
      unfold ReadPost
      rw [hp'.out]
      simp only
      unfold CheckPost
      rw [hc]
      have ht := ((((Touch.refl w.heap.size w3).setCell 0 (.int .i64 0)).setCell 1 (.int .i64 0)).setCell (1 + 1) (.int .i64 0))
      exact ⟨v3, rfl, fun w'' ha => R3.out w'' (((Above.touch ht (Nat.le_refl _)).trans ha).mono (by rw [World.size_alloc]; omega)), hl3⟩
    | error f =>
      obtain ⟨er, l, c⟩ := f
      rw [hc] at hck
      refine hck.mono ?_
      rintro e w3 ⟨rfl, hb3⟩
      have Q3 := hid (bthen Q2.out hb3)
      have B3 := hid (B2.out.ext hb3)
      obtain ⟨d0, d1, d2, df, dz⟩ := B3.out.three
      clear hb3 hck
      go_wp2_with fail
      refine bodyPost_ret (v := .tuple #[.slice none 0 0, .agg #[.int .i64 er, .int .i64 l, .int .i64 c]]) (by simp [results, Tryz.results11, go_sem, d0, d1, d2]) rfl ⟨?_, (by simp only [below_setNew_iff hn1]; exact Q3.out)⟩
      unfold ReadPost
      rw [hp'.out]
      simp only
      unfold CheckPost
      rw [hc]

end Go.Proofs.YtnoieobjfihbeaaGreatDoor

namespace Go.Proofs.YtnoieobjfihbeaaGreatDoor
open Go.RowKit Go.Sort Go.Maps

def kRule : Ru.Rule := ⟨4, 8, 1, 4, 255, [⟨0, 0, 65535, 65535⟩], 12⟩
def kText : ByteArray := { data := ([114, 111, 108, 101, 32, 110, 117, 114, 115, 101, 32, 61, 32, 51, 59, 32, 97, 108, 108, 111, 119, 32, 114, 111, 108, 101, 32, 110, 117, 114, 115, 101, 32, 116].append [105, 101, 114, 32, 49, 46, 46, 52, 32, 108, 97, 98, 101, 108, 32, 97, 110, 121, 32, 105, 110, 32, 97, 108, 108, 32, 122, 111, 111, 109, 32, 49, 50, 59]).toArray }
def kDecls : List Po.Decl := match Po.parse kText.data.toList with | .ok ds => ds | .error _ => []
theorem kParse : Po.parse kText.data.toList = .ok kDecls := by
  have h : (match Po.parse kText.data.toList with | .ok _ => true | .error _ => false) = true := by decide +kernel
  unfold kDecls
  cases hp : Po.parse kText.data.toList with
  | ok ds => rfl
  | error f => rw [hp] at h; cases h
theorem kCheck : Ru.checkV kDecls = .ok [kRule] := by kernel_rfl
theorem kZoom1 : Ru.zoomV [kRule] 3 2 7 9 0 = 12 := by kernel_rfl
theorem kZoom2 : Ru.zoomV [kRule] 3 5 7 0 0 = 0 := by kernel_rfl

set_option maxRecDepth 100000 in
set_option maxHeartbeats 4000000 in
theorem known_any (w : World) : Calls Tryz.prog 10 #[] w fun e w' => e = .returned (.bool true) ∧ Below w.heap.size w w' := by
  have hr := read_any kText w (by decide)
  unfold ReadPost at hr
  rw [kParse] at hr
  simp only at hr
  unfold CheckPost at hr
  rw [kCheck] at hr
  simp only at hr
  have hr' := hid hr
  clear hr
  go_enter Tryz.func10, Tryz.ntmps10
  go_wp2_with fail
  refine hr'.out.mono ?_
  rintro e w1 ⟨⟨v, rfl, hrs, _⟩, hb1⟩
  have hz := balloc w1 (.cells #[.int .i64 0, .int .i64 0, .int .i64 0] 27)
  have R1 := hid (hrs _ (Above.below hz))
  have Q1 := hid (bthen hb1 hz)
  rcases R1.out with ⟨_, h0⟩ | ⟨g, off, cap, rfl, hg⟩
  · cases h0
  obtain ⟨x, hat, hrow, _⟩ := hg.get 0 (by decide)
  have q1 : (w1.alloc (.cells #[.int .i64 0, .int .i64 0, .int .i64 0] 27)).cell? ⟨g, off + 1, none⟩ = some (.int .i64 8) := hat 1 _ rfl
  have q4 : (w1.alloc (.cells #[.int .i64 0, .int .i64 0, .int .i64 0] 27)).cell? ⟨g, off + 4, none⟩ = some (.int .i64 255) := hat 4 _ rfl
  clear hat hrow hg hz hb1 hrs
  go_wp2_with fail
  refine (zoom_any 3 2 7 9 0 R1.out (by decide)).mono ?_
  rw [kZoom1]
  rintro e w3 ⟨rfl, hb3⟩
  have R3 := hid (R1.out.ext hb3)
  have Q3 := hid (bthen Q1.out hb3)
  clear hb3 q1 q4
  go_wp2_with fail
  refine (zoom_any 3 5 7 0 0 R3.out (by decide)).mono ?_
  rw [kZoom2]
  rintro e w4 ⟨rfl, hb4⟩
  have Q4 := hid (bthen Q3.out hb4)
  clear hb4
  go_wp2_with fail
  go_ret
  exact ⟨rfl, Q4.out⟩

end Go.Proofs.YtnoieobjfihbeaaGreatDoor

namespace Go.Proofs.YtnoieobjfihbeaaGreatDoor
open Go.RowKit Go.Sort

/-- a box's cells, as a region that draws reads them -/
theorem box_at {w : World} {g o : Nat} {b : Po.Box} (h : w.rangeAt g o (boxArr b).toList) : w.cell? ⟨g, o, none⟩ = some (.int .i64 b.x0) ∧ w.cell? ⟨g, o + 1, none⟩ = some (.int .i64 b.y0) ∧ w.cell? ⟨g, o + 1 + 1, none⟩ = some (.int .i64 b.x1) ∧ w.cell? ⟨g, o + 1 + 1 + 1, none⟩ = some (.int .i64 b.y1) :=
  ⟨h 0 _ rfl, h 1 _ rfl, h 2 _ rfl, h 3 _ rfl⟩

set_option maxHeartbeats 1000000 in
theorem samerects_any {w : World} {v1 v2 : Value} {l : List Po.Box} (h1 : BRow w v1 l) (h2 : BRow w v2 l) (hn : l.length ≤ 140737488355328) :
    Calls Tryz.prog 19 #[v1, v2] w fun e w' => e = .returned (.bool true) ∧ Below w.heap.size w w' := by
  by_cases h0 : l.length = 0
  · obtain ⟨p1, c1, rfl⟩ := h1.shape
    obtain ⟨p2, c2, rfl⟩ := h2.shape
    rw [h0]
    clear h1 h2
    go_enter Tryz.func19, Tryz.ntmps19
    go_wp2_with fail
    go_loop [5] (fun u => u = .int .i64 0) (fun _ => 0)
    case atStart => rfl
    case round =>
      subst hrel
      go_wp2_with fail
      go_ret
      exact ⟨rfl, Below.refl _ _⟩
  · rcases brow_of h1 with ⟨_, _, _, rfl⟩ | ⟨g1, o1, k1, rfl, r1⟩
    · exact absurd rfl h0
    rcases brow_of h2 with ⟨_, _, _, rfl⟩ | ⟨g2, o2, k2, rfl, r2⟩
    · exact absurd rfl h0
    have r1' := hid r1
    have r2' := hid r2
    clear h1 h2 r1 r2 h0
    go_enter Tryz.func19, Tryz.ntmps19
    go_wp2_with fail
    go_loopw [5] (fun u wr => ∃ i : Nat, u = .int .i64 i ∧ i ≤ l.length ∧ Below w.heap.size w wr) (fun u _ => l.length - (intOf u).toNat)
    case atStart => exact ⟨0, rfl, Nat.zero_le _, Below.refl _ _⟩
    case round =>
      obtain ⟨i, rfl, hle, hQ⟩ := hrel
      have Q0 := hid hQ
      by_cases hlt : i < l.length
      · obtain ⟨x0, x1, x2, x3⟩ := box_at ((r1'.out.ext hQ).get i hlt)
        obtain ⟨y0, y1, y2, y3⟩ := box_at ((r2'.out.ext hQ).get i hlt)
        have hg1 := Nat.lt_of_lt_of_le r1'.out.lt hQ.size
        have hg2 := Nat.lt_of_lt_of_le r2'.out.lt hQ.size
        clear hQ
        generalize l[i] = b at *
        obtain ⟨b0, b1, b2, b3⟩ := b
        simp only at x0 x1 x2 x3 y0 y1 y2 y3
        have t1 : (0 : Int) ≤ i := by omega
        have t2 : (i : Int) < l.length := by omega
        go_wp2_with fail
        go_quiet (fail)
        go_wp2_with fail
        go_roundw
        case rel => exact ⟨i + 1, by go_num, by omega, bdrewN Q0.out nq⟩
        case measure => simp [intOf]; omega
      · obtain rfl : i = l.length := by omega
        clear hQ
        go_wp2_with fail
        go_ret
        exact ⟨rfl, Q0.out⟩

end Go.Proofs.YtnoieobjfihbeaaGreatDoor

namespace Go.Proofs.YtnoieobjfihbeaaGreatDoor
open Go.RowKit Go.Sort

set_option maxRecDepth 100000 in
set_option maxHeartbeats 4000000 in
theorem rsame_any {w : World} {v1 v2 : Value} {l : List Ru.Rule} (h1 : RSl w v1 l) (h2 : RSl w v2 l) (hn : l.length ≤ 140737488355328) :
    Calls Tryz.prog 12 #[v1, v2] w fun e w' => e = .returned (.bool true) ∧ Below w.heap.size w w' := by
  have hshape : ∀ {v : Value}, RSl w v l → ∃ p c, v = .slice p l.length c := fun h => by
    rcases h with ⟨rfl, rfl⟩ | ⟨g, off, cap, rfl, _⟩
    · exact ⟨_, _, rfl⟩
    · exact ⟨_, _, rfl⟩
  obtain ⟨p1, c1, rfl⟩ := hshape h1
  obtain ⟨p2, c2, rfl⟩ := hshape h2
  have hP : ∀ {p : Option Addr} {c : Nat}, RSl w (.slice p l.length c) l → 0 < l.length → ∃ g off, p = some ⟨g, off, none⟩ ∧ RRow w g off c l := fun h hpos => by
    rcases h with ⟨_, h0⟩ | ⟨g, off, cap, hv, hr⟩
    · rw [h0] at hpos; simp at hpos
    · cases hv; exact ⟨g, off, rfl, hr⟩
  have hP1 := hid (hP h1)
  have hP2 := hid (hP h2)
  clear h1 h2 hshape hP
  go_enter Tryz.func12, Tryz.ntmps12
  go_wp2_with fail
  go_loopw [5] (fun u wr => ∃ i : Nat, u = .int .i64 i ∧ i ≤ l.length ∧ Below w.heap.size w wr) (fun u _ => l.length - (intOf u).toNat)
  case atStart => exact ⟨0, rfl, Nat.zero_le _, Below.refl _ _⟩
  case round =>
    obtain ⟨i, rfl, hle, hQ⟩ := hrel
    have Q0 := hid hQ
    clear hQ
    by_cases hlt : i < l.length
    · obtain ⟨g1, o1, rfl, r1⟩ := hP1.out (by omega)
      obtain ⟨g2, o2, rfl, r2⟩ := hP2.out (by omega)
      obtain ⟨x1, s1⟩ := r1.at Q0.out hlt
      obtain ⟨x2, s2⟩ := r2.at Q0.out hlt
      generalize l[i] = r at *
      have S1 := hid s1
      have z1 := balloc wr (.cells (ruleArr r x1) 74)
      have hat2 : Hid ((wr.alloc (.cells (ruleArr r x1) 74)).rangeAt g2 (o2 + i * 7) (ruleArr r x2).toList) := hid (fun j u hj => (z1.cell (p := ⟨g2, o2 + i * 7 + j, none⟩) (Nat.lt_of_lt_of_le r2.lt Q0.out.size)).trans (s2.at_ j u hj))
      have ho1 := hid s1.one
      have ho2 := hid s2.one
      have Q1 := hid (bthen Q0.out z1)
      have A1 := hid (Blk.new wr (ruleArr r x1) 74)
      have R1a := hid (s1.box.ext z1)
      have R2a := hid (s2.box.ext z1)
      have hfew := hid s1.few
      clear s1 s2 r1 r2 z1
      go_upto_region 7 with (first | (refine wpList_load_at rfl 74 (.tmp 21) rfl 22 rfl g1 (o1 + i * 7) (ruleArr r x1) (S1.out.at_) rfl Tryz.underlying74 rfl (by kernel_rfl) ?_) | (refine wpList_store_new rfl 74 (.tmp 6) (.tmp 22) rfl rfl wr 74 _ (ruleArr r x1) rfl rfl rfl (by kernel_rfl) rfl (ho1.out) ?_))
      clear S1
      generalize wr.alloc (.cells (ruleArr r x1) 74) = w1 at *
      generalize wr.heap.size = ba at *
      have z2 := balloc w1 (.cells (ruleArr r x2) 74)
      have A2 := hid (A1.out.ext z2)
      have B2 := hid (Blk.new w1 (ruleArr r x2) 74)
      have Q2 := hid (bthen Q1.out z2)
      have R1 := hid (R1a.out.ext z2)
      have R2 := hid (R2a.out.ext z2)
      clear z2 R1a R2a A1 Q1
      go_upto_region 8 with (first | (refine wpList_load_at rfl 74 (.tmp 25) rfl 26 rfl g2 (o2 + i * 7) (ruleArr r x2) (hat2.out) rfl Tryz.underlying74 rfl (by kernel_rfl) ?_) | (refine wpList_store_new rfl 74 (.tmp 7) (.tmp 26) rfl rfl w1 74 _ (ruleArr r x2) rfl rfl rfl (by kernel_rfl) rfl (ho2.out) ?_))
      clear hat2 ho1 ho2
      generalize w1.alloc (.cells (ruleArr r x2) 74) = w2 at *
      obtain ⟨q1, d1, rfl⟩ := R1.out.shape
      obtain ⟨q2, d2, rfl⟩ := R2.out.shape
      have a0 := A2.out.cell 0 (v := .int .i64 r.kind) rfl
      have a1 := A2.out.cell 1 (v := .int .i64 r.roles) rfl
      have a2 := A2.out.cell 2 (v := .int .i64 r.lo) rfl
      have a3 := A2.out.cell 3 (v := .int .i64 r.hi) rfl
      have a4 := A2.out.cell 4 (v := .int .i64 r.labels) rfl
      have a5 := A2.out.cell 5 (v := .slice q1 r.boxes.length d1) rfl
      have a6 := A2.out.cell 6 (v := .int .i64 r.zoom) rfl
      have b0 := B2.out.cell 0 (v := .int .i64 r.kind) rfl
      have b1 := B2.out.cell 1 (v := .int .i64 r.roles) rfl
      have b2 := B2.out.cell 2 (v := .int .i64 r.lo) rfl
      have b3 := B2.out.cell 3 (v := .int .i64 r.hi) rfl
      have b4 := B2.out.cell 4 (v := .int .i64 r.labels) rfl
      have b5 := B2.out.cell 5 (v := .slice q2 r.boxes.length d2) rfl
      have b6 := B2.out.cell 6 (v := .int .i64 r.zoom) rfl
      go_wp2_with fail
      refine (samerects_any R1.out R2.out hfew.out).mono ?_
      rintro e w3 ⟨rfl, hb3⟩
      have Q3 := hid (bthen Q2.out hb3)
      clear hb3 a0 a1 a2 a3 a4 a5 a6 b0 b1 b2 b3 b4 b5 b6
      go_wp2_with fail
      go_roundw
      case rel => exact ⟨i + 1, by go_num, by omega, Q3.out⟩
      case measure => simp [intOf]; omega
    · obtain rfl : i = l.length := by omega
      go_wp2_with fail
      go_ret
      exact ⟨rfl, Q0.out⟩

end Go.Proofs.YtnoieobjfihbeaaGreatDoor
