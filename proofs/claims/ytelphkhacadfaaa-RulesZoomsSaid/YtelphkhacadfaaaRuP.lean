/- The walk of rules.Check. -/
import Derived.Test.YtelphkhacadfaaaRuO
namespace Go.Proofs.Ytelphkhacadfaaa
open Go.RowKit Go.Sort Go.Maps

/-- all blocks behind block B are as they were -/
structure Above (B : Nat) (w w' : World) : Prop where
  size : w.heap.size ≤ w'.heap.size
  block : ∀ k, B < k → k < w.heap.size → w'.heap[k]? = w.heap[k]?
theorem Above.refl (B : Nat) (w : World) : Above B w w := ⟨Nat.le_refl _, fun _ _ _ => rfl⟩
theorem Above.trans {B : Nat} {x y z : World} (h : Above B x y) (k : Above B y z) : Above B x z :=
  ⟨Nat.le_trans h.size k.size, fun i hi hn => (k.block i hi (Nat.lt_of_lt_of_le hn h.size)).trans (h.block i hi hn)⟩
theorem Above.mono {B B' : Nat} {x y : World} (h : Above B x y) (hb : B ≤ B') : Above B' x y := ⟨h.size, fun k hk => h.block k (by omega)⟩
theorem Above.touch {B b : Nat} {x y : World} (h : Touch b x y) (hb : b ≤ B) : Above B x y := ⟨h.size, fun k hk hn => h.block k hn (by omega)⟩
theorem Above.below {B : Nat} {x y : World} (h : Below x.heap.size x y) : Above B x y := ⟨h.size, fun k _ hn => h.block k hn⟩
theorem Row.same {w w' : World} {v : Value} {n size : Nat} {xs : List Value} (h : Row w v n size xs) (hs : w.heap.size ≤ w'.heap.size) (hb : ∀ b, v.ownBlock = some b → w'.heap[b]? = w.heap[b]?) : Row w' v n size xs := by
  refine ⟨h.1, ?_⟩
  rcases h.2 with h2 | ⟨g, off, cap, hv, hn, hg, hc⟩
  · exact .inl h2
  · have hg' := hb g (by rw [hv]; rfl)
    exact .inr ⟨g, off, cap, hv, hn, Nat.lt_of_lt_of_le hg hs, fun j u hj => (World.cell?_of_block (w := w) (a := ⟨g, off + j, none⟩) hg').trans (hc j u hj)⟩
/-- what Check returns; B: all that it made lies behind block B -/
def CheckPost (B : Nat) (l : List Po.Decl) (e : Ending) (w' : World) : Prop :=
  match Ru.checkV l with
  | .ok rs => ∃ v, e = .returned (.tuple #[v, .agg #[.int .i64 0, .int .i64 0, .int .i64 0]]) ∧ (∀ w'', Above B w' w'' → RSl w'' v rs) ∧ rs.length ≤ 33
  | .error (er, x, y) => e = .returned (.tuple #[.slice none 0 0, .agg #[.int .i64 er, .int .i64 x, .int .i64 y]])
theorem rsl_of {w : World} {rules : List Ru.Rule} {rv : Value} {vs : List Value} (hlen : vs.length = rules.length) (hrow : Row w rv rules.length 7 (rulesCells rules vs))
    (hbox : ∀ (i : Nat) r x, rules[i]? = some r → vs[i]? = some x → Row w x r.boxes.length 4 (boxesCells r.boxes) ∧ r.boxes.length * 32 ≤ 140737488355328) : RSl w rv rules := by
  have hz : (rules.zip vs).length = rules.length := by rw [List.length_zip, hlen]; omega
  have hr : Row w rv (rules.zip vs).length 7 ((rules.zip vs).flatMap fun p => (ruleArr p.1 p.2).toList) := by rw [hz]; exact hrow
  rcases srow_of (f := fun p : Ru.Rule × Value => ruleArr p.1 p.2) (fun _ _ => rfl) hr with ⟨hv, h0⟩ | ⟨g, off, cap, hv, hs⟩
  · refine .inl ⟨hv, ?_⟩
    have : rules.length = 0 := by rw [← hz, h0]; rfl
    exact List.eq_nil_of_length_eq_zero this
  · rw [hz] at hv
    refine .inr ⟨g, off, cap, hv, by have := hs.cap; omega, hs.lt, fun i hi => ?_⟩
    have hi2 : i < vs.length := by rw [hlen]; exact hi
    have h1 := hs.get i (by omega)
    rw [List.getElem_zip] at h1
    have h2 := hbox i _ _ (List.getElem?_eq_getElem hi) (List.getElem?_eq_getElem hi2)
    exact ⟨vs[i], h1, h2.1.b, by have := h2.2; omega⟩
theorem Inner.rsl {w w' : World} {bo b1 b2 br c B : Nat} {ahead : List Po.Decl} {rules : List Ru.Rule} {rv : Value} {vs : List Value} {rg : ByteArray → Value} (h : Inner w bo b1 b2 br c ahead rules rv vs rg) (ha : Above B w w') (hB : B < bo) : RSl w' rv rules := by
  obtain ⟨o1, o2, o3, o4, o5⟩ := h.ord
  have hrow := Row.of_owns h.own
  refine rsl_of h.len (hrow.same ha.size (fun b hb => ha.block b (by have := (h.own.lt b hb).1; omega) (h.own.lt b hb).2)) (fun i r x hr hx => ?_)
  obtain ⟨r1, r2, r3⟩ := h.box i r x hr hx
  exact ⟨r1.same ha.size (fun b hb => ha.block b (by have := (r3 b hb).1; omega) (r1.own_lt hb)), r2⟩

def one1 (b1 : Nat) : Lit → Option Value
  | .int .i64 x => if x = 1 then some (.map (some b1)) else none
  | _ => none
theorem one1_none {b1 : Nat} {l : Lit} (h : l ≠ .int .i64 1) : one1 b1 l = none := by
  unfold one1
  split
  · rename_i x
    rw [if_neg (fun e => h (by rw [e]))]
  · rfl
theorem outF_one {b1 b2 : Nat} {l : Lit} (h : l ≠ .int .i64 2) : outF b1 b2 l = one1 b1 l := by
  by_cases hx : ∃ x, l = .int .i64 x
  · obtain ⟨x, rfl⟩ := hx
    unfold outF one1
    have h2 : x ≠ 2 := fun e => h (by rw [e])
    simp only [h2, if_false]
  · have e1 : outF b1 b2 l = none := by
      unfold outF
      split
      · rename_i x; exact absurd ⟨x, rfl⟩ hx
      · rfl
    have e2 : one1 b1 l = none := by
      unfold one1
      split
      · rename_i x; exact absurd ⟨x, rfl⟩ hx
      · rfl
    rw [e1, e2]
theorem numF_nil (k : Int) : numF [] k = fun _ => none := by funext l; unfold numF; cases l <;> rfl
theorem regF_nil (rg : ByteArray → Value) : regF [] rg = fun _ => none := by funext l; unfold regF; cases l <;> rfl
theorem chk_made {w1 w3 w5 : World} (hg3 : ((w1.alloc (.map #[] 0)).alloc (.map #[] 0)).grownBy w3 (some w1.heap.size)) (hg5 : (w3.alloc (.map #[] 0)).grownBy w5 (some w1.heap.size)) (hK : KMap Try.prog 3 w5 w1.heap.size 2 (outF (w1.heap.size + 1) w3.heap.size)) :
    Chk ((w5.alloc (.map #[] 0)).alloc (.cells (ckCells w1.heap.size w5.heap.size ⟨[], 0, (0, 0, 0)⟩ (.slice none 0 0)) 56)) w1.heap.size (w1.heap.size + 1) w3.heap.size w5.heap.size (w5.heap.size + 1) [] ⟨[], 0, (0, 0, 0)⟩ (.slice none 0 0) ∧
      Below w1.heap.size w1 ((w5.alloc (.map #[] 0)).alloc (.cells (ckCells w1.heap.size w5.heap.size ⟨[], 0, (0, 0, 0)⟩ (.slice none 0 0)) 56)) := by
  have s3 := hg3.size
  have s5 := hg5.size
  simp only [World.size_alloc] at s3 s5
  have z1 := balloc w5 (.map #[] 0)
  have z2 := balloc (w5.alloc (.map #[] 0)) (.cells (ckCells w1.heap.size w5.heap.size ⟨[], 0, (0, 0, 0)⟩ (.slice none 0 0)) 56)
  refine ⟨⟨Blk.newAt (by simp) _ _, [], fun _ => .slice none 0 0, ⟨by omega, by omega, by omega, by omega, by simp only [World.size_alloc]; omega⟩, (hK.ext z1).ext z2, ?_, ?_, ?_, fun nm d hd => by simp [Ru.declared] at hd, rfl, World.ownsRow_nil _ _ _ _, fun i r x hr => by simp at hr⟩, ?_⟩
  · rw [numF_nil]
    exact (((((KMap.madeAt (w := w1.alloc (.map #[] 0)) (k := w1.heap.size + 1) (by simp) Try.prog 9).grown hg3 (by simp)).ext (balloc w3 _)).grown hg5 (by simp)).ext z1).ext z2
  · rw [numF_nil]
    exact (((KMap.made w3 Try.prog 9).grown hg5 (by simp; omega)).ext z1).ext z2
  · rw [regF_nil]
    exact (KMap.made w5 Try.prog 9).ext z2
  · have q1 : Below w1.heap.size w1 ((w1.alloc (.map #[] 0)).alloc (.map #[] 0)) := bthen (balloc w1 _) (balloc _ _)
    have q3 := q1.grown hg3 (by simp only [World.size_alloc]; omega) (fun k hk => by simp at hk; omega)
    have q5 := (q3.alloc (by omega) (.map #[] 0)).grown hg5 (by simp only [World.size_alloc]; omega) (fun k hk => by simp at hk; omega)
    exact (q5.alloc (by omega) _).alloc (by simp only [World.size_alloc]; omega) _
theorem run_fault {a : List Po.Decl} {k : Ru.Ck} {d : Po.Decl} {r : List Po.Decl} (h : (Ru.ckDecl a k d).f.1 ≠ 0) : Ru.ckRun a (d :: r) k = .error (Ru.ckDecl a k d).f := by unfold Ru.ckRun; rw [if_neg h]
theorem run_on {a : List Po.Decl} {k : Ru.Ck} {d : Po.Decl} {r : List Po.Decl} (h : (Ru.ckDecl a k d).f.1 = 0) : Ru.ckRun a (d :: r) k = Ru.ckRun (a ++ [d]) r (Ru.ckDecl a k d) := by
  conv => lhs; unfold Ru.ckRun
  rw [if_pos h]
theorem run_end (a : List Po.Decl) (k : Ru.Ck) : Ru.ckRun a [] k = .ok k.rules := by unfold Ru.ckRun; rfl

set_option maxRecDepth 100000 in
set_option maxHeartbeats 4000000 in
theorem check_bad {w : World} {v : Value} {l : List Po.Decl} (h : DSl w v l) (hn : l.length ≤ 140737488355328) (hs : ∀ d ∈ l, DSmall d) (ha : l.all Ru.may = false) :
    Calls Try.prog 8 #[v] w fun e w' => CheckPost w.heap.size l e w' ∧ Below w.heap.size w w' := by
  have hz := balloc w (.cells #[.int .i64 0, .int .i64 0, .int .i64 0] 29)
  have hd := hid (h.ext hz)
  have hs' := hid hs
  have Q0 := hid hz
  have B0 := hid (Blk.new w #[.int .i64 0, .int .i64 0, .int .i64 0] 29)
  have e := hid (show Ru.checkV l = .error (1, 0, 0) by unfold Ru.checkV; rw [ha]; rfl)
  have hn1 := Nat.le_refl w.heap.size
  clear hz h hs
  go_enter Try.func8, Try.ntmps8
  go_wp2_with fail
  refine (pright_any hd.out hn hs'.out).mono ?_
  rw [ha]
  rintro en w1 ⟨rfl, hb1⟩
  have Q1 := hid (bthen Q0.out hb1)
  have B1 := hid (B0.out.ext hb1)
  obtain ⟨d0, d1, d2, df, dz⟩ := B1.out.three
  clear hb1
  go_wp2_with fail
  refine bodyPost_ret (v := .tuple #[.slice none 0 0, .agg #[.int .i64 1, .int .i64 0, .int .i64 0]]) (by simp [results, Try.results8, go_sem, d0, d1, d2]) rfl ⟨?_, (by simp only [below_setNew_iff hn1]; exact Q1.out)⟩
  unfold CheckPost
  rw [e.out]

set_option maxRecDepth 100000 in
set_option maxHeartbeats 4000000 in
theorem check_good_any {w : World} {v : Value} {l : List Po.Decl} (h : DSl w v l) (hn : l.length ≤ 140737488355328) (hs : ∀ d ∈ l, DSmall d) (ha : l.all Ru.may = true) :
    Calls Try.prog 8 #[v] w fun e w' => CheckPost w.heap.size l e w' ∧ Below w.heap.size w w' := by
  have hz := balloc w (.cells #[.int .i64 0, .int .i64 0, .int .i64 0] 29)
  have hd := hid (h.ext hz)
  have hs' := hid hs
  have Q0 := hid hz
  have B0 := hid (Blk.new w #[.int .i64 0, .int .i64 0, .int .i64 0] 29)
  have e := hid (show Ru.checkV l = Ru.ckRun [] l ⟨[], 0, (0, 0, 0)⟩ by unfold Ru.checkV; rw [ha]; rfl)
  have hn1 := Nat.le_refl w.heap.size
  have ha' := hid ha
  obtain ⟨vp, vc, rfl⟩ := h.shape
  have hds := hid h
  clear hz h hs
  go_enter Try.func8, Try.ntmps8
  go_wp2_with fail
  refine (pright_any hd.out hn hs'.out).mono ?_
  rw [ha]
  rintro en w1 ⟨rfl, hb1⟩
  have Q1 := hid (bthen Q0.out hb1)
  have B1 := hid (B0.out.ext hb1)
  have D1 := hid (hd.out.ext hb1)
  clear hb1 ha
  have hmm : ∀ (t : TypeId) (w : World), (Instr.makeMap t none).run Try.prog w = .ok (.map (some w.heap.size)) (w.alloc (.map #[] 0)) := fun _ _ => rfl
  have K0 := hid ((KMap.made w1 Try.prog 3).ext (balloc (w1.alloc (.map #[] 0)) (.map #[] 0)))
  have M0 := hid (KMap.madeAt (w := w1.alloc (.map #[] 0)) (k := w1.heap.size + 1) (by simp) Try.prog 9)
  go_wp2_with (first
    | (refine wpList_put rfl (.tmp 11) (.const (.int .i64 1)) (.tmp 12) 53 (.inr rfl) rfl 52 lawI Try.underlying53 rfl K0.out (by unfold maxLen; omega) (.int .i64 1) (.map (some (w1.heap.size + 1))) (.int .i64 1) rfl rfl (keyI (.inl rfl)) trivial ?_
       intro w3 hput3 hg3
       have K1 := hid ((hput3 (one1 (w1.heap.size + 1)) rfl (fun l _ hl => one1_none hl)).ext (balloc w3 (.map #[] 0)))
       have hg3' := hid hg3
       clear hput3 hg3)
    | (refine wpList_put rfl (.tmp 11) (.const (.int .i64 2)) (.tmp 13) 53 (.inr rfl) rfl 52 lawI Try.underlying53 rfl K1.out (by unfold maxLen; omega) (.int .i64 2) (.map (some w3.heap.size)) (.int .i64 2) rfl rfl (keyI (.inr rfl)) trivial ?_
       intro w5 hput5 hg5
       have K2 := hid (hput5 (outF (w1.heap.size + 1) w3.heap.size) rfl (fun l _ hl => outF_one hl))
       have hg5' := hid hg5
       clear hput5 hg5))
  obtain ⟨hC, hBl⟩ := chk_made hg3'.out hg5'.out K2.out
  have hfb := B1.out.lt
  have hw1 := Q1.out.size
  have hC' := hid hC
  have hQl := hid (show Below w.heap.size w _ from Q1.out.trans (hBl.mono hw1))
  have hFl := hid (B1.out.below hBl hfb)
  clear hC hBl K2 K1 K0 M0 hg3' hg5' hmm hd B0 Q0 D1
  unfold ckCells at hC' hQl hFl
  generalize hbo : w1.heap.size = bo at *
  generalize hb2 : w3.heap.size = b2 at *
  generalize hbr : w5.heap.size = br at *
  clear hbo hb2 hbr
  go_loopw [20] (fun u wr => ∃ (i : Nat) (k : Ru.Ck) (rv : Value), u = .int .i64 i ∧ i ≤ l.length ∧ Chk wr bo (bo + 1) b2 br (br + 1) (l.take i) k rv ∧ Ru.CkOk (l.take i) k ∧ Ru.checkV l = Ru.ckRun (l.take i) (l.drop i) k ∧
    Blk wr w.heap.size #[.int .i64 0, .int .i64 0, .int .i64 0] 29 ∧ Below w.heap.size w wr) (fun u _ => l.length - (intOf u).toNat)
  case atStart => exact ⟨0, ⟨[], 0, (0, 0, 0)⟩, .slice none 0 0, rfl, Nat.zero_le _, hC'.out, Ru.CkOk.begin, e.out, hFl.out, hQl.out⟩
  case round =>
    obtain ⟨i, k, rv, rfl, hle, hC, hO, hV, hF, hQ⟩ := hrel
    have hC1 := hid hC
    have hO1 := hid hO
    have hV1 := hid hV
    have hF1 := hid hF
    have hQ1 := hid hQ
    clear hC hO hV hF hQ
    have hclt := hC1.out.blk.lt
    have hcord := hC1.out.ord
    by_cases hlt : i < l.length
    · rcases hds.out with ⟨_, h0⟩ | ⟨g, off, cap, hv, hr⟩
      · rw [h0] at hlt; simp at hlt
      cases hv
      obtain ⟨x, hx⟩ := hr.at hQ1.out hlt
      have hx' := hid hx
      have hsm := hid (hs'.out _ (List.getElem_mem hlt))
      have hmay := hid (List.all_eq_true.1 ha'.out _ (List.getElem_mem hlt))
      have htk := hid (show l.take (i + 1) = l.take i ++ [l[i]] from (List.take_append_getElem hlt).symm)
      have hdr := hid (show l.drop i = l[i] :: l.drop (i + 1) from List.drop_eq_getElem_cons hlt)
      generalize l[i] = d at *
      clear hx hr
      have hlen : (l.take i).length < maxLen := by rw [List.length_take]; unfold maxLen; omega
      have hz := balloc wr (.cells (declCells d x) 60)
      have C2 := hid (hC1.out.ext hz)
      have X2 := hid (hx'.out.box.ext hz)
      have F2 := hid (hF1.out.ext hz)
      have Q2 := hid (hQ1.out.trans (hz.mono hQ1.out.size))
      clear hz
      go_wp2_with (first | (refine wpList_load_at rfl 60 (.tmp 22) rfl 23 rfl g (off + i * 24) (declCells d x) (hx'.out.at_) rfl Try.underlying60 rfl (by kernel_rfl) ?_) | (refine wpList_store_new rfl 60 (.tmp 6) (.tmp 23) rfl rfl wr 60 _ (declCells d x) rfl rfl rfl (by kernel_rfl) rfl (hx'.out.one) ?_) | (refine wpList_load_blk rfl 60 (.tmp 6) rfl 25 rfl wr.heap.size 60 (declCells d x) (Blk.new wr _ _) rfl Try.underlying60 rfl (by kernel_rfl) ?_))
      refine (cdecl_any C2.out hO1.out hlen d x hmay.out hsm.out X2.out).mono ?_
      rintro en w6 ⟨rfl, hb6, ahead', rv', hC6, ha6⟩
      have C6 := hid hC6
      have A6 := hid ha6
      have Q6 := hid (show Below w.heap.size w w6 from Q2.out.trans (hb6.mono (by omega)))
      have F6 := hid (F2.out.below hb6 (by omega))
      obtain ⟨c0, c1, c2, c3, c4, c5, c6, cf, clt⟩ := hC6.f
      clear hC6 ha6 hb6
      by_cases hf0 : (Ru.ckDecl (l.take i) k d).f.1 = 0
      · have hz0 := hf0
        have O6 := hid (hO1.out.decl hmay.out hf0)
        have V6 := hid (hV1.out.trans (by rw [hdr.out, run_on hf0, ← htk.out]))
        have hah := A6.out hf0
        rw [hf0] at c4
        have hf0' := hid hf0
        clear hf0 hz0
        go_wp2_with fail
        go_roundw
        case rel => exact ⟨i + 1, _, rv', by go_num, by omega, by rw [htk.out, ← hah]; exact C6.out, by rw [htk.out]; exact O6.out, V6.out, F6.out, Q6.out⟩
        case measure => simp [intOf]; omega
      · have V6 := hid (hV1.out.trans (by rw [hdr.out, run_fault hf0]))
        generalize (Ru.ckDecl (l.take i) k d).f = ff at *
        obtain ⟨fe, fl, fp⟩ := ff
        simp only at c4 c5 c6 hf0
        have e2 : (fe != 0) = true := by rw [bne_iff_ne]; exact hf0
        obtain ⟨d0, d1, d2, df, dz⟩ := F6.out.three
        have nfc : w.heap.size ≠ br + 1 := by omega
        have ncf : br + 1 ≠ w.heap.size := by omega
        go_wp2_with fail
        go_region_held3 (fun w' => w'.cell? ⟨br + 1, 4, none⟩ = some (.int .i64 fe) ∧ w'.cell? ⟨br + 1, 4 + 1, none⟩ = some (.int .i64 fl) ∧ w'.cell? ⟨br + 1, 4 + 1 + 1, none⟩ = some (.int .i64 fp)) (go_keep) (first | fail)
        go_wp2_with fail
        refine bodyPost_ret (v := .tuple #[.slice none 0 0, .agg #[.int .i64 fe, .int .i64 fl, .int .i64 fp]]) (by simp [results, Try.results8, go_sem, d0, d1, d2]) rfl ⟨?_, (by simp only [below_setNew_iff hn1, below_drew_iff]; exact Q6.out)⟩
        unfold CheckPost
        rw [V6.out]
    · obtain rfl : i = l.length := by omega
      have V6 := hid (hV1.out.trans (by rw [List.drop_length, run_end]))
      obtain ⟨c0, c1, c2, c3, c4, c5, c6, cf, clt⟩ := hC1.out.f
      obtain ⟨d0, d1, d2, df, dz⟩ := hF1.out.three
      have nfc : w.heap.size ≠ br + 1 := by omega
      have ncf : br + 1 ≠ w.heap.size := by omega
      obtain ⟨vs, rg, hi⟩ := hC1.out.inn
      have hi' := hid hi
      clear hi
      go_wp2_with fail
      refine bodyPost_ret (v := .tuple #[rv, .agg #[.int .i64 0, .int .i64 0, .int .i64 0]]) (by simp [results, Try.results8, go_sem, d0, d1, d2]) rfl ⟨?_, (by simp only [below_setNew_iff hn1]; exact hQ1.out)⟩
      unfold CheckPost
      rw [V6.out]
      have ht := ((((Touch.refl w.heap.size wr).setCell 0 (.int .i64 0)).setCell 1 (.int .i64 0)).setCell (1 + 1) (.int .i64 0))
      exact ⟨rv, rfl, fun w'' ha => hi'.out.rsl ((Above.touch ht (Nat.le_refl _)).trans ha) hfb, by have := hO1.out.len; omega⟩

theorem check_any {w : World} {v : Value} {l : List Po.Decl} (h : DSl w v l) (hn : l.length ≤ 140737488355328) (hs : ∀ d ∈ l, DSmall d) :
    Calls Try.prog 8 #[v] w fun e w' => CheckPost w.heap.size l e w' ∧ Below w.heap.size w w' := by
  cases ha : l.all Ru.may with
  | true => exact check_good_any h hn hs ha
  | false => exact check_bad h hn hs ha

end Go.Proofs.Ytelphkhacadfaaa
