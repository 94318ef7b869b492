/- What holds of the checker so far as nothing was wrong; the walk of its decl. -/
import Derived.Test.YtelphkhacadfaaaRuN
import Derived.Test.YtelphkhacadfaaaRuPlain2
namespace Go.Proofs.Ytelphkhacadfaaa.Ru
open Po (Box Who Decl)

/-- nothing was wrong so far -/
structure CkOk (a : List Decl) (k : Ck) : Prop where
  f : k.f = (0, 0, 0)
  good : Good a
  lo : 0 ≤ k.boxes
  hi : k.boxes ≤ 32
  len : k.rules.length ≤ 32
theorem CkOk.begin : CkOk [] ⟨[], 0, (0, 0, 0)⟩ := ⟨rfl, ⟨fun _ h => by simp at h, fun _ h => by simp at h⟩, by decide, by decide, by decide⟩
theorem rrule_boxes {a : List Decl} {d : Decl} {n b : Int} {x : Rule} (h : rrule a d n b = .ok x) : x.boxes = [] ∨ b + x.boxes.length ≤ 32 := by
  unfold rrule at h
  split at h
  · cases h
  · split at h
    · cases h
    · split at h
      · simp only [Except.ok.injEq] at h; rw [← h]; exact .inl rfl
      · split at h
        · cases h
        · split at h
          · cases h
          · split at h
            · cases h
            · split at h
              · cases h
              · split at h
                · cases h
                · rename_i hb _
                  simp only [Except.ok.injEq] at h; rw [← h]; exact .inr (by simp only; omega)
theorem may_label {a : List Decl} (hg : Good a) {d : Decl} (h : may d = true) (hk : 3 < d.kind) (ha : d.label.any = false) : 0 ≤ whoN a 2 d.label := by
  have h6 := may_kind h
  by_cases h4 : d.kind = 4 ∨ d.kind = 5
  · exact whoN_pos hg (.inr rfl) (may_rule h h4).1 ha
  · unfold may at h
    rw [if_neg (by omega), if_neg (by omega), if_neg h4, if_pos (by omega)] at h
    unfold noRule zeroW at h
    simp only [Bool.and_eq_true, beq_iff_eq] at h
    unfold whoN
    rw [if_pos (by have := h.2.1.2.1.2; exact this)]
    have := h.2.1.2.2
    omega
theorem Good.snoc {a : List Decl} {d : Decl} (hg : Good a) (h1 : d.kind = 1 ∨ d.kind = 2 → 0 ≤ d.n ∧ d.n ≤ 7) (h2 : d.kind = 3 → boxesR d.boxes = true) : Good (a ++ [d]) :=
  ⟨fun y hy hk => by
    rcases List.mem_append.1 hy with hy | hy
    · exact hg.num y hy hk
    · rw [List.mem_singleton.1 hy] at hk ⊢; exact h1 hk, fun y hy hk => by
    rcases List.mem_append.1 hy with hy | hy
    · exact hg.reg y hy hk
    · rw [List.mem_singleton.1 hy] at hk ⊢; exact h2 hk⟩
theorem CkOk.decl {a : List Decl} {k : Ck} {d : Decl} (h : CkOk a k) (hm : may d = true) (hf : (ckDecl a k d).f.1 = 0) : CkOk (a ++ [d]) (ckDecl a k d) := by
  have hk := may_kind hm
  have hz : k.f.1 = 0 := by rw [h.f]
  by_cases h3 : 3 < d.kind
  · have he : ckDecl a k d = ckRule a k d := by unfold ckDecl; rw [if_neg (by omega), if_neg (by omega)]
    rw [he] at hf ⊢
    have hr := ckRule_eq a k d h.f h.len
    revert hr
    cases hx : rrule a d k.rules.length k.boxes with
    | error f => intro hr; simp only at hr; exact absurd (hr.1 ▸ hf) hr.2
    | ok x =>
      intro hr
      simp only at hr
      rw [hr.1]
      have hb := rrule_boxes hx
      have := hr.2
      have h1 := h.lo
      have h2 := h.hi
      refine ⟨rfl, h.good.snoc (fun e => by omega) (fun e => by omega), by simp only; omega, ?_, by simp only [List.length_append, List.length_cons, List.length_nil]; omega⟩
      simp only
      rcases hb with hb | hb
      · rw [hb]; simpa using h2
      · exact hb
  · by_cases hk3 : d.kind = 3
    · have he : ckDecl a k d = ckRegion a k d := by unfold ckDecl; rw [if_neg (by omega), if_pos hk3]
      rw [he] at hf ⊢
      unfold ckRegion at hf ⊢
      split at hf
      · rw [wrong_f hz] at hf; simp at hf
      · rename_i hd
        rw [if_neg hd]
        split at hf
        · rename_i hb
          rw [if_pos hb]
          exact ⟨h.f, h.good.snoc (fun e => by omega) (fun _ => hb), h.lo, h.hi, h.len⟩
        · rw [wrong_f hz] at hf; simp at hf
    · have he : ckDecl a k d = ckNumber a k d := by unfold ckDecl; rw [if_pos (by omega)]
      rw [he] at hf ⊢
      unfold ckNumber at hf ⊢
      split at hf
      · rw [wrong_f hz] at hf; simp at hf
      · rename_i hd
        rw [if_neg hd]
        split at hf
        · rw [wrong_f hz] at hf; simp at hf
        · rename_i h7
          rw [if_neg h7]
          exact ⟨h.f, h.good.snoc (fun e => ⟨may_n hm e, by omega⟩) (fun e => absurd e hk3), h.lo, h.hi, h.len⟩
theorem may_region {d : Decl} (h : may d = true) (hk : d.kind = 3) : 0 < d.boxes.length := by
  unfold may at h
  rw [if_neg (by omega), if_pos hk] at h
  unfold boxesN at h
  simp only [Bool.and_eq_true, decide_eq_true_eq] at h
  have := h.1.1.2.2
  omega

end Go.Proofs.Ytelphkhacadfaaa.Ru
namespace Go.Proofs.Ytelphkhacadfaaa
open Go.RowKit Go.Sort Go.Maps

theorem CkPost.shift {w w1 w' : World} {bo b1 b2 br c : Nat} {ahead : List Po.Decl} {d : Po.Decl} {k : Ru.Ck} {en : Ending} (h : CkPost w1 bo b1 b2 br c ahead d k en w') (hb : Below bo w w1) : CkPost w bo b1 b2 br c ahead d k en w' :=
  ⟨h.1, hb.trans h.2.1, h.2.2⟩

set_option maxRecDepth 100000 in
set_option maxHeartbeats 2000000 in
theorem cdecl_any {w : World} {bo b1 b2 br c : Nat} {ahead : List Po.Decl} {k : Ru.Ck} {rv : Value} (h : Chk w bo b1 b2 br c ahead k rv) (ho : Ru.CkOk ahead k) (hl : ahead.length < maxLen) (d : Po.Decl) (x : Value) (hm : Ru.may d = true) (hs : DSmall d) (hx : BRow w x d.boxes) :
    Calls Try.prog 23 #[.pointer (some ⟨c, 0, none⟩), .agg (declCells d x)] w (CkPost w bo b1 b2 br c ahead d (Ru.ckDecl ahead k d)) := by
  have hen1 : ∀ (args : Array Value) (w : World), Sem.run Try.prog (callFunc 40 args) w = .ok (.enter 40 args) w := fun _ _ => by kernel_rfl
  have hen2 : ∀ (args : Array Value) (w : World), Sem.run Try.prog (callFunc 41 args) w = .ok (.enter 41 args) w := fun _ _ => by kernel_rfl
  have hen3 : ∀ (args : Array Value) (w : World), Sem.run Try.prog (callFunc 42 args) w = .ok (.enter 42 args) w := fun _ _ => by kernel_rfl
  have hz := balloc w (.cells (declCells d x) 60)
  have h1 := hid (h.ext hz)
  have X1 := hid (hx.ext hz)
  have B0 := hid (Blk.new w (declCells d x) 60)
  have hb : Below bo w (w.alloc (.cells (declCells d x) 60)) := by
    have := h.ord
    exact hz.mono (by omega)
  have hb' := hid hb
  have hh := hid h
  have ho' := hid ho
  have hl' := hid hl
  have hm' := hid hm
  have hs' := hid hs
  have hf : k.f.1 = 0 := by rw [ho.f]
  have hf' := hid hf
  have hkk := Ru.may_kind hm
  have y0 : (declCells d x)[0]? = some (.int .i64 d.kind) := rfl
  clear hz h hx hb ho hl hm hs hf
  by_cases k1 : d.kind = 1
  · have e := hid (show Ru.ckDecl ahead k d = Ru.ckNumber ahead k d by unfold Ru.ckDecl; rw [if_pos (.inl k1)])
    have k1' := hid k1
    have q1 : (d.kind == 1) = true := beq_iff_eq.2 k1
    clear k1
    go_enter Try.func23, Try.ntmps23
    go_wp2_with (first | (refine wpList_load_blk rfl 60 (.tmp 3) rfl 19 rfl w.heap.size 60 (declCells d x) (B0.out) rfl Try.underlying60 rfl (by kernel_rfl) ?_))
    refine (cnumber_any h1.out hf'.out d x (.inl k1'.out) hs'.out.name hl'.out).mono ?_
    intro en w2 hp
    have hp' := hid (hp.shift hb'.out)
    obtain ⟨rfl, _⟩ := hp
    go_wp2_with fail
    go_end0
    rw [e.out]; exact hp'.out
  · have q1 : (d.kind == 1) = false := beq_eq_false_iff_ne.2 k1
    by_cases k2 : d.kind = 2
    · have e := hid (show Ru.ckDecl ahead k d = Ru.ckNumber ahead k d by unfold Ru.ckDecl; rw [if_pos (.inr k2)])
      have k2' := hid k2
      have q2 : (d.kind == 2) = true := beq_iff_eq.2 k2
      clear k2
      go_enter Try.func23, Try.ntmps23
      go_wp2_with (first | (refine wpList_load_blk rfl 60 (.tmp 3) rfl 19 rfl w.heap.size 60 (declCells d x) (B0.out) rfl Try.underlying60 rfl (by kernel_rfl) ?_))
      refine (cnumber_any h1.out hf'.out d x (.inr k2'.out) hs'.out.name hl'.out).mono ?_
      intro en w2 hp
      have hp' := hid (hp.shift hb'.out)
      obtain ⟨rfl, _⟩ := hp
      go_wp2_with fail
      go_end0
      rw [e.out]; exact hp'.out
    · have q2 : (d.kind == 2) = false := beq_eq_false_iff_ne.2 k2
      by_cases k3 : d.kind = 3
      · have e := hid (show Ru.ckDecl ahead k d = Ru.ckRegion ahead k d by unfold Ru.ckDecl; rw [if_neg (by omega), if_pos k3])
        have k3' := hid k3
        have q3 : (d.kind == 3) = true := beq_iff_eq.2 k3
        clear k3
        go_enter Try.func23, Try.ntmps23
        go_wp2_with (first | (refine wpList_load_blk rfl 60 (.tmp 3) rfl 19 rfl w.heap.size 60 (declCells d x) (B0.out) rfl Try.underlying60 rfl (by kernel_rfl) ?_))
        refine (cregion_any h1.out hf'.out d x k3'.out hs'.out.name hl'.out (X1.out.pos (Ru.may_region hm'.out k3'.out)) (Ru.may_region hm'.out k3'.out) hs'.out.boxes).mono ?_
        intro en w2 hp
        have hp' := hid (hp.shift hb'.out)
        obtain ⟨rfl, _⟩ := hp
        go_wp2_with fail
        go_end0
        rw [e.out]; exact hp'.out
      · have e := hid (show Ru.ckDecl ahead k d = Ru.ckRule ahead k d by unfold Ru.ckDecl; rw [if_neg (by omega), if_neg k3])
        have q3 : (d.kind == 3) = false := beq_eq_false_iff_ne.2 k3
        have k4 : 3 < d.kind := by omega
        have hp1 := hid (fun ha => Ru.whoN_pos ho'.out.good (k := 1) (.inl rfl) (Ru.may_role hm'.out k4) ha)
        have hp2 := hid (Ru.may_label ho'.out.good hm'.out k4)
        go_enter Try.func23, Try.ntmps23
        go_wp2_with (first | (refine wpList_load_blk rfl 60 (.tmp 3) rfl 19 rfl w.heap.size 60 (declCells d x) (B0.out) rfl Try.underlying60 rfl (by kernel_rfl) ?_))
        refine (crule_any h1.out hf'.out ⟨ho'.out.lo, ho'.out.hi⟩ ho'.out.len d x k1 k2 k3 hs'.out.role hs'.out.label hs'.out.place hp1.out hp2.out).mono ?_
        intro en w2 hp
        have hp' := hid (hp.shift hb'.out)
        obtain ⟨rfl, _⟩ := hp
        go_wp2_with fail
        go_end0
        rw [e.out]; exact hp'.out

end Go.Proofs.Ytelphkhacadfaaa
