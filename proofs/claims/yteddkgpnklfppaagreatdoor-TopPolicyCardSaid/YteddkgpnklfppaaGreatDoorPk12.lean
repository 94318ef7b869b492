/-
  The walk of the policy's reader: decl.
-/
import Derived.Test.YteddkgpnklfppaaGreatDoorPk05
import Derived.Test.YteddkgpnklfppaaGreatDoorPk06

namespace Go.Proofs.YteddkgpnklfppaaGreatDoor
open Go.RowKit Go.Sort

theorem declCells_one (D : Po.Decl) {V : Value} (hV : V.oneCell' = true) : (declCells D V).all (·.oneCell') = true := by
  unfold declCells
  rw [← Array.all_toList]
  simp only [List.all_cons, List.all_nil, hV]
  rfl
theorem Touch2.blk {x y : World} {b d k : Nat} {cs : Array Value} {t : TypeId} (h : Blk x k cs t) (ht : Touch2 b d x y) (hb : k ≠ b) (hd : k ≠ d) : Blk y k cs t := (ht.block k h.lt hb hd).trans h
theorem free_of {w : World} {b d : Nat} {pa : Option Addr} {cp : Nat} {T : List Lx.Tok} {e : Nat × Nat} {st : Po.St} (h : PRd w b pa cp T e st) (hd : w.heap.size ≤ d) : Free b d pa T := by
  refine ⟨by have := h.blk.lt; omega, ?_⟩
  rcases h.row with h1 | ⟨g, off, hp, hr, _⟩
  · exact .inl h1
  · refine .inr fun g' off' hp' => ?_
    rw [hp] at hp'
    cases hp'
    have := hr.lt
    omega
/-- what 'decl' leaves -/
def DeclPost (w : World) (b : Nat) (pa : Option Addr) (cp : Nat) (T : List Lx.Tok) (e : Nat × Nat) (st : Po.St) (en : Ending) (w' : World) : Prop :=
  ∃ v, en = .returned (.agg (declCells (Po.declV T e st) v)) ∧ Row w' v (Po.declV T e st).boxes.length 4 (boxesCells (Po.declV T e st).boxes) ∧
      (∀ k, v.ownBlock = some k → w.heap.size ≤ k) ∧ PRd w' b pa cp T e (Po.declS T e st) ∧ Touch b w w'

set_option maxRecDepth 100000 in
set_option maxHeartbeats 16000000 in
theorem pdecl_0 {w : World} {b : Nat} {pa : Option Addr} {cp : Nat} {T : List Lx.Tok} {e : Nat × Nat} {st : Po.St} (h : PRd w b pa cp T e st) (hs0 : Po.is T Po.wRole st = true) :
    Calls Tryz.prog 30 #[.pointer (some ⟨b, 0, none⟩)] w (DeclPost w b pa cp T e st) := by
  unfold DeclPost
  have h' := hid h
  have hblt : b < w.heap.size := h.blk.lt
  have hn1 := Nat.le_refl w.heap.size
  have hnb : w.heap.size ≠ b := by omega
  have hz1 := balloc w (.cells #[.int .i64 0, .string ⟨#[]⟩, .int .i64 0, .slice none 0 0, .bool false, .string ⟨#[]⟩, .int .i64 0, .int .i64 0, .int .i64 0, .int .i64 0, .int .i64 0, .bool false, .string ⟨#[]⟩, .int .i64 0, .int .i64 0, .int .i64 0, .bool false, .string ⟨#[]⟩, .int .i64 0, .int .i64 0, .int .i64 0, .int .i64 0, .int .i64 0, .int .i64 0] 83)
  have ha := hid (h.ext hz1)
  have qa := hid (Touch.of_below (b := b) hz1)
  have ra := hid (Blk.new w #[.int .i64 0, .string ⟨#[]⟩, .int .i64 0, .slice none 0 0, .bool false, .string ⟨#[]⟩, .int .i64 0, .int .i64 0, .int .i64 0, .int .i64 0, .int .i64 0, .bool false, .string ⟨#[]⟩, .int .i64 0, .int .i64 0, .int .i64 0, .bool false, .string ⟨#[]⟩, .int .i64 0, .int .i64 0, .int .i64 0, .int .i64 0, .int .i64 0, .int .i64 0] 83)
  have ed := hid (show Po.declV T e st = Po.namedV T e (Po.declAt T e st 1) (Po.on st) by unfold Po.declV; rw [if_pos hs0])
  have es := hid (show Po.declS T e st = Po.want T e [59] (Po.namedS T e (Po.on st)) by unfold Po.declS; rw [if_pos hs0])
  have hc := fun w' h => ptook_yes (w := w') (b := b) (pa := pa) (cp := cp) (e := e) h (s := ⟨#[114, 111, 108, 101]⟩) hs0
  clear hs0
  clear h hz1
  go_enter Tryz.func30, Tryz.ntmps30
  go_wp2_with fail
  refine (pplace_any ha.out).mono ?_
  rintro en w1 ⟨rfl, hb1⟩
  have hsz1 := hb1.size
  simp only [World.size_alloc] at hsz1
  have hpl : ∃ pl pc : Nat, Po.place T e st = (pl, pc) := ⟨_, _, rfl⟩
  obtain ⟨pl, pc, hpl⟩ := hpl
  have hda : Hid (∀ k, Po.declAt T e st k = { Po.zeroDecl with kind := k, line := pl, col := pc }) := hid (fun k => by unfold Po.declAt; rw [hpl])
  rw [hda.out] at ed
  rw [hpl]
  clear hpl
  simp only
  have hz := balloc w1 (.cells (declCells { Po.zeroDecl with kind := 0, line := pl, col := pc } (.slice none 0 0)) 83)
  have h2 := hid ((ha.out.ext hb1).ext hz)
  have q2 := hid ((qa.out.below hb1).below hz)
  have r2 := hid ((ra.out.ext hb1).ext hz)
  have d2 := hid (show DBlk (w1.alloc (.cells (declCells { Po.zeroDecl with kind := 0, line := pl, col := pc } (.slice none 0 0)) 83)) w1.heap.size { Po.zeroDecl with kind := 0, line := pl, col := pc } (.slice none 0 0) from Blk.new w1 _ _)
  have hne : w.heap.size ≠ w1.heap.size := by omega
  have hnd : w1.heap.size ≠ w.heap.size := by omega
  have hdb : w1.heap.size ≠ b := by omega
  have hn2 : w.heap.size ≤ w1.heap.size := by omega
  have hfr := hid (free_of h'.out hn2)
  clear hz
  go_wp2_with (first | (refine wpList_buildTo rfl 83 #[(10, .tmp 6)] rfl (some 7) rfl (declCells { Po.zeroDecl with kind := 0, line := pl, col := pc } (.slice none 0 0)) (by kernel_rfl) ?_) | (refine wpList_store_new rfl 83 (.tmp 3) (.tmp 7) rfl rfl w1 83 _ (declCells { Po.zeroDecl with kind := 0, line := pl, col := pc } (.slice none 0 0)) rfl rfl rfl (by kernel_rfl) rfl (declCells_one _ rfl) ?_))
  generalize w1.alloc (.cells (declCells { Po.zeroDecl with kind := 0, line := pl, col := pc } (.slice none 0 0)) 83) = w2 at *
  generalize w1.heap.size = d at *
  refine (hc _ h2.out).mono ?_
  rintro en w3 ⟨rfl, i3, t3⟩
  have h3 := hid i3
  have q3 := hid (q2.out.trans t3)
  have r3 := hid (r2.out.touch t3 hnb)
  have d3 := hid (show DBlk w3 d _ _ from Blk.touch d2.out t3 hdb)
  clear i3 t3
  have y0 := Blk.cell d3.out 0 (v := .int .i64 0) rfl
  have yf := Blk.free d3.out
  have yz := Blk.lt d3.out
  have Hs := hid ((PRd.setD_iff hfr.out 0 (.int .i64 1)).2 h3.out)
  have Qs := hid ((Touch2.setD_iff (b := b) (d := d) 0 (.int .i64 1)).2 (Touch2.of q3.out))
  have Rs := hid (r3.out.setOther hne 0 (.int .i64 1))
  have Ds := hid (show DBlk (w3.setCell ⟨d, 0, none⟩ (.int .i64 1)) d { Po.zeroDecl with kind := 1, line := pl, col := pc } (.slice none 0 0) from Blk.set d3.out 0 (.int .i64 1))
  go_wp2_with fail
  clear y0 yf yz
  refine (pnamed_any Hs.out hfr.out Ds.out).mono ?_
  rintro en wr ⟨rfl, hr, dr0, tr⟩
  have hr' := hid hr
  have qr := hid (Qs.out.trans tr)
  have rr := hid (show DBlk wr w.heap.size Po.zeroDecl (.slice none 0 0) from Touch2.blk Rs.out tr hnb hne)
  have orow := hid (Row.nil wr 4)
  have oown : Hid (∀ k, (Value.slice none 0 0).ownBlock = some k → w.heap.size ≤ k) := hid (fun k hk => by cases hk)
  generalize hDz : Po.namedV T e { Po.zeroDecl with kind := 1, line := pl, col := pc } (Po.on st) = Dz at *
  have hbx : Hid (Dz.boxes = []) := hid (by rw [← hDz]; rfl)
  have dr := hid dr0
  clear hr dr0 tr hDz
  go_wp2_with fail
  refine (pwant_any hr'.out _).mono ?_
  rintro en wz ⟨rfl, hz, tz⟩
  have hz' := hid hz
  have qz := hid ((qr.out.touch tz).own hn2)
  have dz := hid (show Blk wz d (declCells Dz (.slice none 0 0)) 83 from Blk.touch dr.out tz hdb)
  have rz := hid (show Blk wz w.heap.size (declCells Po.zeroDecl (.slice none 0 0)) 83 from Blk.touch rr.out tz hnb)
  have oz := hid (Row.touch orow.out tz (fun e => by have := oown.out _ e; omega))
  clear hz tz
  go_wp2_with (first | (refine wpList_load_blk rfl 83 (.tmp 3) rfl 48 rfl d 83 (declCells Dz (.slice none 0 0)) dz.out rfl Tryz.underlying83 rfl (by kernel_rfl) ?_) | (refine wpList_store_blk rfl 83 (.tmp 2) (.tmp 48) rfl rfl w.heap.size 83 _ (declCells Dz (.slice none 0 0)) rz.out rfl rfl (by kernel_rfl) rfl (declCells_one _ rfl) ?_))
  rw [es.out, ed.out]
  refine bodyPost_ret (v := .agg (declCells Dz (.slice none 0 0))) (results_blk (p := 2) (ty := 83) rfl _ _ w.heap.size 83 _ rfl (rz.out.setRow _) Tryz.underlying83 rfl (by kernel_rfl)) rfl ⟨_, rfl, ?_, oown.out, PRd.later h'.out hz'.out hn1 ((Touch.refl _ _).setRow _), qz.out.setRowNew hn1 _⟩
  rw [hbx.out]
  exact Row.nil _ _

set_option maxRecDepth 100000 in
set_option maxHeartbeats 16000000 in
theorem pdecl_1 {w : World} {b : Nat} {pa : Option Addr} {cp : Nat} {T : List Lx.Tok} {e : Nat × Nat} {st : Po.St} (h : PRd w b pa cp T e st) (hs0 : Po.is T Po.wRole st = false) (hs1 : Po.is T Po.wLabel st = true) :
    Calls Tryz.prog 30 #[.pointer (some ⟨b, 0, none⟩)] w (DeclPost w b pa cp T e st) := by
  unfold DeclPost
  have h' := hid h
  have hblt : b < w.heap.size := h.blk.lt
  have hn1 := Nat.le_refl w.heap.size
  have hnb : w.heap.size ≠ b := by omega
  have hz1 := balloc w (.cells #[.int .i64 0, .string ⟨#[]⟩, .int .i64 0, .slice none 0 0, .bool false, .string ⟨#[]⟩, .int .i64 0, .int .i64 0, .int .i64 0, .int .i64 0, .int .i64 0, .bool false, .string ⟨#[]⟩, .int .i64 0, .int .i64 0, .int .i64 0, .bool false, .string ⟨#[]⟩, .int .i64 0, .int .i64 0, .int .i64 0, .int .i64 0, .int .i64 0, .int .i64 0] 83)
  have ha := hid (h.ext hz1)
  have qa := hid (Touch.of_below (b := b) hz1)
  have ra := hid (Blk.new w #[.int .i64 0, .string ⟨#[]⟩, .int .i64 0, .slice none 0 0, .bool false, .string ⟨#[]⟩, .int .i64 0, .int .i64 0, .int .i64 0, .int .i64 0, .int .i64 0, .bool false, .string ⟨#[]⟩, .int .i64 0, .int .i64 0, .int .i64 0, .bool false, .string ⟨#[]⟩, .int .i64 0, .int .i64 0, .int .i64 0, .int .i64 0, .int .i64 0, .int .i64 0] 83)
  have ed := hid (show Po.declV T e st = Po.namedV T e (Po.declAt T e st 2) (Po.on st) by unfold Po.declV; rw [if_neg (by rw [hs0]; decide), if_pos hs1])
  have es := hid (show Po.declS T e st = Po.want T e [59] (Po.namedS T e (Po.on st)) by unfold Po.declS; rw [if_neg (by rw [hs0]; decide), if_pos hs1])
  have hc0 := fun w' h => ptook_no (w := w') (b := b) (pa := pa) (cp := cp) (e := e) h (s := ⟨#[114, 111, 108, 101]⟩) hs0
  have hc := fun w' h => ptook_yes (w := w') (b := b) (pa := pa) (cp := cp) (e := e) h (s := ⟨#[108, 97, 98, 101, 108]⟩) hs1
  clear hs0 hs1
  clear h hz1
  go_enter Tryz.func30, Tryz.ntmps30
  go_wp2_with fail
  refine (pplace_any ha.out).mono ?_
  rintro en w1 ⟨rfl, hb1⟩
  have hsz1 := hb1.size
  simp only [World.size_alloc] at hsz1
  have hpl : ∃ pl pc : Nat, Po.place T e st = (pl, pc) := ⟨_, _, rfl⟩
  obtain ⟨pl, pc, hpl⟩ := hpl
  have hda : Hid (∀ k, Po.declAt T e st k = { Po.zeroDecl with kind := k, line := pl, col := pc }) := hid (fun k => by unfold Po.declAt; rw [hpl])
  rw [hda.out] at ed
  rw [hpl]
  clear hpl
  simp only
  have hz := balloc w1 (.cells (declCells { Po.zeroDecl with kind := 0, line := pl, col := pc } (.slice none 0 0)) 83)
  have h2 := hid ((ha.out.ext hb1).ext hz)
  have q2 := hid ((qa.out.below hb1).below hz)
  have r2 := hid ((ra.out.ext hb1).ext hz)
  have d2 := hid (show DBlk (w1.alloc (.cells (declCells { Po.zeroDecl with kind := 0, line := pl, col := pc } (.slice none 0 0)) 83)) w1.heap.size { Po.zeroDecl with kind := 0, line := pl, col := pc } (.slice none 0 0) from Blk.new w1 _ _)
  have hne : w.heap.size ≠ w1.heap.size := by omega
  have hnd : w1.heap.size ≠ w.heap.size := by omega
  have hdb : w1.heap.size ≠ b := by omega
  have hn2 : w.heap.size ≤ w1.heap.size := by omega
  have hfr := hid (free_of h'.out hn2)
  clear hz
  go_wp2_with (first | (refine wpList_buildTo rfl 83 #[(10, .tmp 6)] rfl (some 7) rfl (declCells { Po.zeroDecl with kind := 0, line := pl, col := pc } (.slice none 0 0)) (by kernel_rfl) ?_) | (refine wpList_store_new rfl 83 (.tmp 3) (.tmp 7) rfl rfl w1 83 _ (declCells { Po.zeroDecl with kind := 0, line := pl, col := pc } (.slice none 0 0)) rfl rfl rfl (by kernel_rfl) rfl (declCells_one _ rfl) ?_))
  generalize w1.alloc (.cells (declCells { Po.zeroDecl with kind := 0, line := pl, col := pc } (.slice none 0 0)) 83) = w2 at *
  generalize w1.heap.size = d at *
  refine (hc0 _ h2.out).mono ?_
  rintro en w3 ⟨rfl, i3, t3⟩
  have h3 := hid i3
  have q3 := hid (q2.out.trans t3)
  have r3 := hid (r2.out.touch t3 hnb)
  have d3 := hid (show DBlk w3 d _ _ from Blk.touch d2.out t3 hdb)
  clear i3 t3
  go_wp2_with fail
  refine (hc _ h3.out).mono ?_
  rintro en w4 ⟨rfl, i4, t4⟩
  have h4 := hid i4
  have q4 := hid (q3.out.trans t4)
  have r4 := hid (r3.out.touch t4 hnb)
  have d4 := hid (show DBlk w4 d _ _ from Blk.touch d3.out t4 hdb)
  clear i4 t4
  have y0 := Blk.cell d4.out 0 (v := .int .i64 0) rfl
  have yf := Blk.free d4.out
  have yz := Blk.lt d4.out
  have Hs := hid ((PRd.setD_iff hfr.out 0 (.int .i64 2)).2 h4.out)
  have Qs := hid ((Touch2.setD_iff (b := b) (d := d) 0 (.int .i64 2)).2 (Touch2.of q4.out))
  have Rs := hid (r4.out.setOther hne 0 (.int .i64 2))
  have Ds := hid (show DBlk (w4.setCell ⟨d, 0, none⟩ (.int .i64 2)) d { Po.zeroDecl with kind := 2, line := pl, col := pc } (.slice none 0 0) from Blk.set d4.out 0 (.int .i64 2))
  go_wp2_with fail
  clear y0 yf yz
  refine (pnamed_any Hs.out hfr.out Ds.out).mono ?_
  rintro en wr ⟨rfl, hr, dr0, tr⟩
  have hr' := hid hr
  have qr := hid (Qs.out.trans tr)
  have rr := hid (show DBlk wr w.heap.size Po.zeroDecl (.slice none 0 0) from Touch2.blk Rs.out tr hnb hne)
  have orow := hid (Row.nil wr 4)
  have oown : Hid (∀ k, (Value.slice none 0 0).ownBlock = some k → w.heap.size ≤ k) := hid (fun k hk => by cases hk)
  generalize hDz : Po.namedV T e { Po.zeroDecl with kind := 2, line := pl, col := pc } (Po.on st) = Dz at *
  have hbx : Hid (Dz.boxes = []) := hid (by rw [← hDz]; rfl)
  have dr := hid dr0
  clear hr dr0 tr hDz
  go_wp2_with fail
  refine (pwant_any hr'.out _).mono ?_
  rintro en wz ⟨rfl, hz, tz⟩
  have hz' := hid hz
  have qz := hid ((qr.out.touch tz).own hn2)
  have dz := hid (show Blk wz d (declCells Dz (.slice none 0 0)) 83 from Blk.touch dr.out tz hdb)
  have rz := hid (show Blk wz w.heap.size (declCells Po.zeroDecl (.slice none 0 0)) 83 from Blk.touch rr.out tz hnb)
  have oz := hid (Row.touch orow.out tz (fun e => by have := oown.out _ e; omega))
  clear hz tz
  go_wp2_with (first | (refine wpList_load_blk rfl 83 (.tmp 3) rfl 48 rfl d 83 (declCells Dz (.slice none 0 0)) dz.out rfl Tryz.underlying83 rfl (by kernel_rfl) ?_) | (refine wpList_store_blk rfl 83 (.tmp 2) (.tmp 48) rfl rfl w.heap.size 83 _ (declCells Dz (.slice none 0 0)) rz.out rfl rfl (by kernel_rfl) rfl (declCells_one _ rfl) ?_))
  rw [es.out, ed.out]
  refine bodyPost_ret (v := .agg (declCells Dz (.slice none 0 0))) (results_blk (p := 2) (ty := 83) rfl _ _ w.heap.size 83 _ rfl (rz.out.setRow _) Tryz.underlying83 rfl (by kernel_rfl)) rfl ⟨_, rfl, ?_, oown.out, PRd.later h'.out hz'.out hn1 ((Touch.refl _ _).setRow _), qz.out.setRowNew hn1 _⟩
  rw [hbx.out]
  exact Row.nil _ _

set_option maxRecDepth 100000 in
set_option maxHeartbeats 16000000 in
theorem pdecl_2 {w : World} {b : Nat} {pa : Option Addr} {cp : Nat} {T : List Lx.Tok} {e : Nat × Nat} {st : Po.St} (h : PRd w b pa cp T e st) (hs0 : Po.is T Po.wRole st = false) (hs1 : Po.is T Po.wLabel st = false) (hs2 : Po.is T Po.wRegion st = true) :
    Calls Tryz.prog 30 #[.pointer (some ⟨b, 0, none⟩)] w (DeclPost w b pa cp T e st) := by
  unfold DeclPost
  have h' := hid h
  have hblt : b < w.heap.size := h.blk.lt
  have hn1 := Nat.le_refl w.heap.size
  have hnb : w.heap.size ≠ b := by omega
  have hz1 := balloc w (.cells #[.int .i64 0, .string ⟨#[]⟩, .int .i64 0, .slice none 0 0, .bool false, .string ⟨#[]⟩, .int .i64 0, .int .i64 0, .int .i64 0, .int .i64 0, .int .i64 0, .bool false, .string ⟨#[]⟩, .int .i64 0, .int .i64 0, .int .i64 0, .bool false, .string ⟨#[]⟩, .int .i64 0, .int .i64 0, .int .i64 0, .int .i64 0, .int .i64 0, .int .i64 0] 83)
  have ha := hid (h.ext hz1)
  have qa := hid (Touch.of_below (b := b) hz1)
  have ra := hid (Blk.new w #[.int .i64 0, .string ⟨#[]⟩, .int .i64 0, .slice none 0 0, .bool false, .string ⟨#[]⟩, .int .i64 0, .int .i64 0, .int .i64 0, .int .i64 0, .int .i64 0, .bool false, .string ⟨#[]⟩, .int .i64 0, .int .i64 0, .int .i64 0, .bool false, .string ⟨#[]⟩, .int .i64 0, .int .i64 0, .int .i64 0, .int .i64 0, .int .i64 0, .int .i64 0] 83)
  have ed := hid (show Po.declV T e st = Po.regionV T e (Po.declAt T e st 3) (Po.on st) by unfold Po.declV; rw [if_neg (by rw [hs0]; decide), if_neg (by rw [hs1]; decide), if_pos hs2])
  have es := hid (show Po.declS T e st = Po.want T e [59] (Po.regionS T e (Po.on st)) by unfold Po.declS; rw [if_neg (by rw [hs0]; decide), if_neg (by rw [hs1]; decide), if_pos hs2])
  have hc0 := fun w' h => ptook_no (w := w') (b := b) (pa := pa) (cp := cp) (e := e) h (s := ⟨#[114, 111, 108, 101]⟩) hs0
  have hc1 := fun w' h => ptook_no (w := w') (b := b) (pa := pa) (cp := cp) (e := e) h (s := ⟨#[108, 97, 98, 101, 108]⟩) hs1
  have hc := fun w' h => ptook_yes (w := w') (b := b) (pa := pa) (cp := cp) (e := e) h (s := ⟨#[114, 101, 103, 105, 111, 110]⟩) hs2
  clear hs0 hs1 hs2
  clear h hz1
  go_enter Tryz.func30, Tryz.ntmps30
  go_wp2_with fail
  refine (pplace_any ha.out).mono ?_
  rintro en w1 ⟨rfl, hb1⟩
  have hsz1 := hb1.size
  simp only [World.size_alloc] at hsz1
  have hpl : ∃ pl pc : Nat, Po.place T e st = (pl, pc) := ⟨_, _, rfl⟩
  obtain ⟨pl, pc, hpl⟩ := hpl
  have hda : Hid (∀ k, Po.declAt T e st k = { Po.zeroDecl with kind := k, line := pl, col := pc }) := hid (fun k => by unfold Po.declAt; rw [hpl])
  rw [hda.out] at ed
  rw [hpl]
  clear hpl
  simp only
  have hz := balloc w1 (.cells (declCells { Po.zeroDecl with kind := 0, line := pl, col := pc } (.slice none 0 0)) 83)
  have h2 := hid ((ha.out.ext hb1).ext hz)
  have q2 := hid ((qa.out.below hb1).below hz)
  have r2 := hid ((ra.out.ext hb1).ext hz)
  have d2 := hid (show DBlk (w1.alloc (.cells (declCells { Po.zeroDecl with kind := 0, line := pl, col := pc } (.slice none 0 0)) 83)) w1.heap.size { Po.zeroDecl with kind := 0, line := pl, col := pc } (.slice none 0 0) from Blk.new w1 _ _)
  have hne : w.heap.size ≠ w1.heap.size := by omega
  have hnd : w1.heap.size ≠ w.heap.size := by omega
  have hdb : w1.heap.size ≠ b := by omega
  have hn2 : w.heap.size ≤ w1.heap.size := by omega
  have hfr := hid (free_of h'.out hn2)
  clear hz
  go_wp2_with (first | (refine wpList_buildTo rfl 83 #[(10, .tmp 6)] rfl (some 7) rfl (declCells { Po.zeroDecl with kind := 0, line := pl, col := pc } (.slice none 0 0)) (by kernel_rfl) ?_) | (refine wpList_store_new rfl 83 (.tmp 3) (.tmp 7) rfl rfl w1 83 _ (declCells { Po.zeroDecl with kind := 0, line := pl, col := pc } (.slice none 0 0)) rfl rfl rfl (by kernel_rfl) rfl (declCells_one _ rfl) ?_))
  generalize w1.alloc (.cells (declCells { Po.zeroDecl with kind := 0, line := pl, col := pc } (.slice none 0 0)) 83) = w2 at *
  generalize w1.heap.size = d at *
  refine (hc0 _ h2.out).mono ?_
  rintro en w3 ⟨rfl, i3, t3⟩
  have h3 := hid i3
  have q3 := hid (q2.out.trans t3)
  have r3 := hid (r2.out.touch t3 hnb)
  have d3 := hid (show DBlk w3 d _ _ from Blk.touch d2.out t3 hdb)
  clear i3 t3
  go_wp2_with fail
  refine (hc1 _ h3.out).mono ?_
  rintro en w4 ⟨rfl, i4, t4⟩
  have h4 := hid i4
  have q4 := hid (q3.out.trans t4)
  have r4 := hid (r3.out.touch t4 hnb)
  have d4 := hid (show DBlk w4 d _ _ from Blk.touch d3.out t4 hdb)
  clear i4 t4
  go_wp2_with fail
  refine (hc _ h4.out).mono ?_
  rintro en w5 ⟨rfl, i5, t5⟩
  have h5 := hid i5
  have q5 := hid (q4.out.trans t5)
  have r5 := hid (r4.out.touch t5 hnb)
  have d5 := hid (show DBlk w5 d _ _ from Blk.touch d4.out t5 hdb)
  clear i5 t5
  have y0 := Blk.cell d5.out 0 (v := .int .i64 0) rfl
  have yf := Blk.free d5.out
  have yz := Blk.lt d5.out
  have Hs := hid ((PRd.setD_iff hfr.out 0 (.int .i64 3)).2 h5.out)
  have Qs := hid ((Touch2.setD_iff (b := b) (d := d) 0 (.int .i64 3)).2 (Touch2.of q5.out))
  have Rs := hid (r5.out.setOther hne 0 (.int .i64 3))
  have Ds := hid (show DBlk (w5.setCell ⟨d, 0, none⟩ (.int .i64 3)) d { Po.zeroDecl with kind := 3, line := pl, col := pc } (.slice none 0 0) from Blk.set d5.out 0 (.int .i64 3))
  go_wp2_with fail
  clear y0 yf yz
  refine (pregion_any Hs.out hfr.out Ds.out).mono ?_
  rintro en wr ⟨rfl, Vz, hr, dr0, hrow, hown, tr⟩
  obtain ⟨vp, vl, vc, rfl⟩ := Row.shape hrow
  have hsr := Qs.out.size
  have hr' := hid hr
  have qr := hid (Qs.out.trans tr)
  have rr := hid (show DBlk wr w.heap.size Po.zeroDecl (.slice none 0 0) from Touch2.blk Rs.out tr hnb hne)
  have oown : Hid (∀ k, (Value.slice vp vl vc).ownBlock = some k → w.heap.size ≤ k) := hid (fun k hk => Nat.le_trans hsr (hown k hk))
  have ofar : Hid (∀ k, (Value.slice vp vl vc).ownBlock = some k → w.heap.size < k) := hid (fun k hk => by have := hown k hk; have := Blk.lt Rs.out; omega)
  generalize hDz : Po.regionV T e { Po.zeroDecl with kind := 3, line := pl, col := pc } (Po.on st) = Dz at *
  have orow := hid hrow
  have dr := hid dr0
  clear hr dr0 tr hDz hrow hown
  go_wp2_with fail
  refine (pwant_any hr'.out _).mono ?_
  rintro en wz ⟨rfl, hz, tz⟩
  have hz' := hid hz
  have qz := hid ((qr.out.touch tz).own hn2)
  have dz := hid (show Blk wz d (declCells Dz (.slice vp vl vc)) 83 from Blk.touch dr.out tz hdb)
  have rz := hid (show Blk wz w.heap.size (declCells Po.zeroDecl (.slice none 0 0)) 83 from Blk.touch rr.out tz hnb)
  have oz := hid (Row.touch orow.out tz (fun e => by have := oown.out _ e; omega))
  clear hz tz
  go_wp2_with (first | (refine wpList_load_blk rfl 83 (.tmp 3) rfl 48 rfl d 83 (declCells Dz (.slice vp vl vc)) dz.out rfl Tryz.underlying83 rfl (by kernel_rfl) ?_) | (refine wpList_store_blk rfl 83 (.tmp 2) (.tmp 48) rfl rfl w.heap.size 83 _ (declCells Dz (.slice vp vl vc)) rz.out rfl rfl (by kernel_rfl) rfl (declCells_one _ rfl) ?_))
  rw [es.out, ed.out]
  refine bodyPost_ret (v := .agg (declCells Dz (.slice vp vl vc))) (results_blk (p := 2) (ty := 83) rfl _ _ w.heap.size 83 _ rfl (rz.out.setRow _) Tryz.underlying83 rfl (by kernel_rfl)) rfl ⟨_, rfl, ?_, oown.out, PRd.later h'.out hz'.out hn1 ((Touch.refl _ _).setRow _), qz.out.setRowNew hn1 _⟩
  exact oz.out.setRow (fun e => by have := ofar.out _ e; omega) _

set_option maxRecDepth 100000 in
set_option maxHeartbeats 16000000 in
theorem pdecl_3 {w : World} {b : Nat} {pa : Option Addr} {cp : Nat} {T : List Lx.Tok} {e : Nat × Nat} {st : Po.St} (h : PRd w b pa cp T e st) (hs0 : Po.is T Po.wRole st = false) (hs1 : Po.is T Po.wLabel st = false) (hs2 : Po.is T Po.wRegion st = false) (hs3 : Po.is T Po.wAllow st = true) :
    Calls Tryz.prog 30 #[.pointer (some ⟨b, 0, none⟩)] w (DeclPost w b pa cp T e st) := by
  unfold DeclPost
  have h' := hid h
  have hblt : b < w.heap.size := h.blk.lt
  have hn1 := Nat.le_refl w.heap.size
  have hnb : w.heap.size ≠ b := by omega
  have hz1 := balloc w (.cells #[.int .i64 0, .string ⟨#[]⟩, .int .i64 0, .slice none 0 0, .bool false, .string ⟨#[]⟩, .int .i64 0, .int .i64 0, .int .i64 0, .int .i64 0, .int .i64 0, .bool false, .string ⟨#[]⟩, .int .i64 0, .int .i64 0, .int .i64 0, .bool false, .string ⟨#[]⟩, .int .i64 0, .int .i64 0, .int .i64 0, .int .i64 0, .int .i64 0, .int .i64 0] 83)
  have ha := hid (h.ext hz1)
  have qa := hid (Touch.of_below (b := b) hz1)
  have ra := hid (Blk.new w #[.int .i64 0, .string ⟨#[]⟩, .int .i64 0, .slice none 0 0, .bool false, .string ⟨#[]⟩, .int .i64 0, .int .i64 0, .int .i64 0, .int .i64 0, .int .i64 0, .bool false, .string ⟨#[]⟩, .int .i64 0, .int .i64 0, .int .i64 0, .bool false, .string ⟨#[]⟩, .int .i64 0, .int .i64 0, .int .i64 0, .int .i64 0, .int .i64 0, .int .i64 0] 83)
  have ed := hid (show Po.declV T e st = Po.ruleV T e (Po.declAt T e st 4) (Po.on st) by unfold Po.declV; rw [if_neg (by rw [hs0]; decide), if_neg (by rw [hs1]; decide), if_neg (by rw [hs2]; decide), if_pos hs3])
  have es := hid (show Po.declS T e st = Po.want T e [59] (Po.ruleS T e (Po.on st)) by unfold Po.declS; rw [if_neg (by rw [hs0]; decide), if_neg (by rw [hs1]; decide), if_neg (by rw [hs2]; decide), if_pos hs3])
  have hc0 := fun w' h => ptook_no (w := w') (b := b) (pa := pa) (cp := cp) (e := e) h (s := ⟨#[114, 111, 108, 101]⟩) hs0
  have hc1 := fun w' h => ptook_no (w := w') (b := b) (pa := pa) (cp := cp) (e := e) h (s := ⟨#[108, 97, 98, 101, 108]⟩) hs1
  have hc2 := fun w' h => ptook_no (w := w') (b := b) (pa := pa) (cp := cp) (e := e) h (s := ⟨#[114, 101, 103, 105, 111, 110]⟩) hs2
  have hc := fun w' h => ptook_yes (w := w') (b := b) (pa := pa) (cp := cp) (e := e) h (s := ⟨#[97, 108, 108, 111, 119]⟩) hs3
  clear hs0 hs1 hs2 hs3
  clear h hz1
  go_enter Tryz.func30, Tryz.ntmps30
  go_wp2_with fail
  refine (pplace_any ha.out).mono ?_
  rintro en w1 ⟨rfl, hb1⟩
  have hsz1 := hb1.size
  simp only [World.size_alloc] at hsz1
  have hpl : ∃ pl pc : Nat, Po.place T e st = (pl, pc) := ⟨_, _, rfl⟩
  obtain ⟨pl, pc, hpl⟩ := hpl
  have hda : Hid (∀ k, Po.declAt T e st k = { Po.zeroDecl with kind := k, line := pl, col := pc }) := hid (fun k => by unfold Po.declAt; rw [hpl])
  rw [hda.out] at ed
  rw [hpl]
  clear hpl
  simp only
  have hz := balloc w1 (.cells (declCells { Po.zeroDecl with kind := 0, line := pl, col := pc } (.slice none 0 0)) 83)
  have h2 := hid ((ha.out.ext hb1).ext hz)
  have q2 := hid ((qa.out.below hb1).below hz)
  have r2 := hid ((ra.out.ext hb1).ext hz)
  have d2 := hid (show DBlk (w1.alloc (.cells (declCells { Po.zeroDecl with kind := 0, line := pl, col := pc } (.slice none 0 0)) 83)) w1.heap.size { Po.zeroDecl with kind := 0, line := pl, col := pc } (.slice none 0 0) from Blk.new w1 _ _)
  have hne : w.heap.size ≠ w1.heap.size := by omega
  have hnd : w1.heap.size ≠ w.heap.size := by omega
  have hdb : w1.heap.size ≠ b := by omega
  have hn2 : w.heap.size ≤ w1.heap.size := by omega
  have hfr := hid (free_of h'.out hn2)
  clear hz
  go_wp2_with (first | (refine wpList_buildTo rfl 83 #[(10, .tmp 6)] rfl (some 7) rfl (declCells { Po.zeroDecl with kind := 0, line := pl, col := pc } (.slice none 0 0)) (by kernel_rfl) ?_) | (refine wpList_store_new rfl 83 (.tmp 3) (.tmp 7) rfl rfl w1 83 _ (declCells { Po.zeroDecl with kind := 0, line := pl, col := pc } (.slice none 0 0)) rfl rfl rfl (by kernel_rfl) rfl (declCells_one _ rfl) ?_))
  generalize w1.alloc (.cells (declCells { Po.zeroDecl with kind := 0, line := pl, col := pc } (.slice none 0 0)) 83) = w2 at *
  generalize w1.heap.size = d at *
  refine (hc0 _ h2.out).mono ?_
  rintro en w3 ⟨rfl, i3, t3⟩
  have h3 := hid i3
  have q3 := hid (q2.out.trans t3)
  have r3 := hid (r2.out.touch t3 hnb)
  have d3 := hid (show DBlk w3 d _ _ from Blk.touch d2.out t3 hdb)
  clear i3 t3
  go_wp2_with fail
  refine (hc1 _ h3.out).mono ?_
  rintro en w4 ⟨rfl, i4, t4⟩
  have h4 := hid i4
  have q4 := hid (q3.out.trans t4)
  have r4 := hid (r3.out.touch t4 hnb)
  have d4 := hid (show DBlk w4 d _ _ from Blk.touch d3.out t4 hdb)
  clear i4 t4
  go_wp2_with fail
  refine (hc2 _ h4.out).mono ?_
  rintro en w5 ⟨rfl, i5, t5⟩
  have h5 := hid i5
  have q5 := hid (q4.out.trans t5)
  have r5 := hid (r4.out.touch t5 hnb)
  have d5 := hid (show DBlk w5 d _ _ from Blk.touch d4.out t5 hdb)
  clear i5 t5
  go_wp2_with fail
  refine (hc _ h5.out).mono ?_
  rintro en w6 ⟨rfl, i6, t6⟩
  have h6 := hid i6
  have q6 := hid (q5.out.trans t6)
  have r6 := hid (r5.out.touch t6 hnb)
  have d6 := hid (show DBlk w6 d _ _ from Blk.touch d5.out t6 hdb)
  clear i6 t6
  have y0 := Blk.cell d6.out 0 (v := .int .i64 0) rfl
  have yf := Blk.free d6.out
  have yz := Blk.lt d6.out
  have Hs := hid ((PRd.setD_iff hfr.out 0 (.int .i64 4)).2 h6.out)
  have Qs := hid ((Touch2.setD_iff (b := b) (d := d) 0 (.int .i64 4)).2 (Touch2.of q6.out))
  have Rs := hid (r6.out.setOther hne 0 (.int .i64 4))
  have Ds := hid (show DBlk (w6.setCell ⟨d, 0, none⟩ (.int .i64 4)) d { Po.zeroDecl with kind := 4, line := pl, col := pc } (.slice none 0 0) from Blk.set d6.out 0 (.int .i64 4))
  go_wp2_with fail
  clear y0 yf yz
  refine (prule_any Hs.out hfr.out Ds.out).mono ?_
  rintro en wr ⟨rfl, hr, dr0, tr⟩
  have hr' := hid hr
  have qr := hid (Qs.out.trans tr)
  have rr := hid (show DBlk wr w.heap.size Po.zeroDecl (.slice none 0 0) from Touch2.blk Rs.out tr hnb hne)
  have orow := hid (Row.nil wr 4)
  have oown : Hid (∀ k, (Value.slice none 0 0).ownBlock = some k → w.heap.size ≤ k) := hid (fun k hk => by cases hk)
  generalize hDz : Po.ruleV T e { Po.zeroDecl with kind := 4, line := pl, col := pc } (Po.on st) = Dz at *
  have hbx : Hid (Dz.boxes = []) := hid (by rw [← hDz]; rfl)
  have dr := hid dr0
  clear hr dr0 tr hDz
  go_wp2_with fail
  refine (pwant_any hr'.out _).mono ?_
  rintro en wz ⟨rfl, hz, tz⟩
  have hz' := hid hz
  have qz := hid ((qr.out.touch tz).own hn2)
  have dz := hid (show Blk wz d (declCells Dz (.slice none 0 0)) 83 from Blk.touch dr.out tz hdb)
  have rz := hid (show Blk wz w.heap.size (declCells Po.zeroDecl (.slice none 0 0)) 83 from Blk.touch rr.out tz hnb)
  have oz := hid (Row.touch orow.out tz (fun e => by have := oown.out _ e; omega))
  clear hz tz
  go_wp2_with (first | (refine wpList_load_blk rfl 83 (.tmp 3) rfl 48 rfl d 83 (declCells Dz (.slice none 0 0)) dz.out rfl Tryz.underlying83 rfl (by kernel_rfl) ?_) | (refine wpList_store_blk rfl 83 (.tmp 2) (.tmp 48) rfl rfl w.heap.size 83 _ (declCells Dz (.slice none 0 0)) rz.out rfl rfl (by kernel_rfl) rfl (declCells_one _ rfl) ?_))
  rw [es.out, ed.out]
  refine bodyPost_ret (v := .agg (declCells Dz (.slice none 0 0))) (results_blk (p := 2) (ty := 83) rfl _ _ w.heap.size 83 _ rfl (rz.out.setRow _) Tryz.underlying83 rfl (by kernel_rfl)) rfl ⟨_, rfl, ?_, oown.out, PRd.later h'.out hz'.out hn1 ((Touch.refl _ _).setRow _), qz.out.setRowNew hn1 _⟩
  rw [hbx.out]
  exact Row.nil _ _

set_option maxRecDepth 100000 in
set_option maxHeartbeats 16000000 in
theorem pdecl_4 {w : World} {b : Nat} {pa : Option Addr} {cp : Nat} {T : List Lx.Tok} {e : Nat × Nat} {st : Po.St} (h : PRd w b pa cp T e st) (hs0 : Po.is T Po.wRole st = false) (hs1 : Po.is T Po.wLabel st = false) (hs2 : Po.is T Po.wRegion st = false) (hs3 : Po.is T Po.wAllow st = false) (hs4 : Po.is T Po.wCap st = true) :
    Calls Tryz.prog 30 #[.pointer (some ⟨b, 0, none⟩)] w (DeclPost w b pa cp T e st) := by
  unfold DeclPost
  have h' := hid h
  have hblt : b < w.heap.size := h.blk.lt
  have hn1 := Nat.le_refl w.heap.size
  have hnb : w.heap.size ≠ b := by omega
  have hz1 := balloc w (.cells #[.int .i64 0, .string ⟨#[]⟩, .int .i64 0, .slice none 0 0, .bool false, .string ⟨#[]⟩, .int .i64 0, .int .i64 0, .int .i64 0, .int .i64 0, .int .i64 0, .bool false, .string ⟨#[]⟩, .int .i64 0, .int .i64 0, .int .i64 0, .bool false, .string ⟨#[]⟩, .int .i64 0, .int .i64 0, .int .i64 0, .int .i64 0, .int .i64 0, .int .i64 0] 83)
  have ha := hid (h.ext hz1)
  have qa := hid (Touch.of_below (b := b) hz1)
  have ra := hid (Blk.new w #[.int .i64 0, .string ⟨#[]⟩, .int .i64 0, .slice none 0 0, .bool false, .string ⟨#[]⟩, .int .i64 0, .int .i64 0, .int .i64 0, .int .i64 0, .int .i64 0, .bool false, .string ⟨#[]⟩, .int .i64 0, .int .i64 0, .int .i64 0, .bool false, .string ⟨#[]⟩, .int .i64 0, .int .i64 0, .int .i64 0, .int .i64 0, .int .i64 0, .int .i64 0] 83)
  have ed := hid (show Po.declV T e st = Po.ruleV T e (Po.declAt T e st 5) (Po.on st) by unfold Po.declV; rw [if_neg (by rw [hs0]; decide), if_neg (by rw [hs1]; decide), if_neg (by rw [hs2]; decide), if_neg (by rw [hs3]; decide), if_pos hs4])
  have es := hid (show Po.declS T e st = Po.want T e [59] (Po.ruleS T e (Po.on st)) by unfold Po.declS; rw [if_neg (by rw [hs0]; decide), if_neg (by rw [hs1]; decide), if_neg (by rw [hs2]; decide), if_neg (by rw [hs3]; decide), if_pos hs4])
  have hc0 := fun w' h => ptook_no (w := w') (b := b) (pa := pa) (cp := cp) (e := e) h (s := ⟨#[114, 111, 108, 101]⟩) hs0
  have hc1 := fun w' h => ptook_no (w := w') (b := b) (pa := pa) (cp := cp) (e := e) h (s := ⟨#[108, 97, 98, 101, 108]⟩) hs1
  have hc2 := fun w' h => ptook_no (w := w') (b := b) (pa := pa) (cp := cp) (e := e) h (s := ⟨#[114, 101, 103, 105, 111, 110]⟩) hs2
  have hc3 := fun w' h => ptook_no (w := w') (b := b) (pa := pa) (cp := cp) (e := e) h (s := ⟨#[97, 108, 108, 111, 119]⟩) hs3
  have hc := fun w' h => ptook_yes (w := w') (b := b) (pa := pa) (cp := cp) (e := e) h (s := ⟨#[99, 97, 112]⟩) hs4
  clear hs0 hs1 hs2 hs3 hs4
  clear h hz1
  go_enter Tryz.func30, Tryz.ntmps30
  go_wp2_with fail
  refine (pplace_any ha.out).mono ?_
  rintro en w1 ⟨rfl, hb1⟩
  have hsz1 := hb1.size
  simp only [World.size_alloc] at hsz1
  have hpl : ∃ pl pc : Nat, Po.place T e st = (pl, pc) := ⟨_, _, rfl⟩
  obtain ⟨pl, pc, hpl⟩ := hpl
  have hda : Hid (∀ k, Po.declAt T e st k = { Po.zeroDecl with kind := k, line := pl, col := pc }) := hid (fun k => by unfold Po.declAt; rw [hpl])
  rw [hda.out] at ed
  rw [hpl]
  clear hpl
  simp only
  have hz := balloc w1 (.cells (declCells { Po.zeroDecl with kind := 0, line := pl, col := pc } (.slice none 0 0)) 83)
  have h2 := hid ((ha.out.ext hb1).ext hz)
  have q2 := hid ((qa.out.below hb1).below hz)
  have r2 := hid ((ra.out.ext hb1).ext hz)
  have d2 := hid (show DBlk (w1.alloc (.cells (declCells { Po.zeroDecl with kind := 0, line := pl, col := pc } (.slice none 0 0)) 83)) w1.heap.size { Po.zeroDecl with kind := 0, line := pl, col := pc } (.slice none 0 0) from Blk.new w1 _ _)
  have hne : w.heap.size ≠ w1.heap.size := by omega
  have hnd : w1.heap.size ≠ w.heap.size := by omega
  have hdb : w1.heap.size ≠ b := by omega
  have hn2 : w.heap.size ≤ w1.heap.size := by omega
  have hfr := hid (free_of h'.out hn2)
  clear hz
  go_wp2_with (first | (refine wpList_buildTo rfl 83 #[(10, .tmp 6)] rfl (some 7) rfl (declCells { Po.zeroDecl with kind := 0, line := pl, col := pc } (.slice none 0 0)) (by kernel_rfl) ?_) | (refine wpList_store_new rfl 83 (.tmp 3) (.tmp 7) rfl rfl w1 83 _ (declCells { Po.zeroDecl with kind := 0, line := pl, col := pc } (.slice none 0 0)) rfl rfl rfl (by kernel_rfl) rfl (declCells_one _ rfl) ?_))
  generalize w1.alloc (.cells (declCells { Po.zeroDecl with kind := 0, line := pl, col := pc } (.slice none 0 0)) 83) = w2 at *
  generalize w1.heap.size = d at *
  refine (hc0 _ h2.out).mono ?_
  rintro en w3 ⟨rfl, i3, t3⟩
  have h3 := hid i3
  have q3 := hid (q2.out.trans t3)
  have r3 := hid (r2.out.touch t3 hnb)
  have d3 := hid (show DBlk w3 d _ _ from Blk.touch d2.out t3 hdb)
  clear i3 t3
  go_wp2_with fail
  refine (hc1 _ h3.out).mono ?_
  rintro en w4 ⟨rfl, i4, t4⟩
  have h4 := hid i4
  have q4 := hid (q3.out.trans t4)
  have r4 := hid (r3.out.touch t4 hnb)
  have d4 := hid (show DBlk w4 d _ _ from Blk.touch d3.out t4 hdb)
  clear i4 t4
  go_wp2_with fail
  refine (hc2 _ h4.out).mono ?_
  rintro en w5 ⟨rfl, i5, t5⟩
  have h5 := hid i5
  have q5 := hid (q4.out.trans t5)
  have r5 := hid (r4.out.touch t5 hnb)
  have d5 := hid (show DBlk w5 d _ _ from Blk.touch d4.out t5 hdb)
  clear i5 t5
  go_wp2_with fail
  refine (hc3 _ h5.out).mono ?_
  rintro en w6 ⟨rfl, i6, t6⟩
  have h6 := hid i6
  have q6 := hid (q5.out.trans t6)
  have r6 := hid (r5.out.touch t6 hnb)
  have d6 := hid (show DBlk w6 d _ _ from Blk.touch d5.out t6 hdb)
  clear i6 t6
  go_wp2_with fail
  refine (hc _ h6.out).mono ?_
  rintro en w7 ⟨rfl, i7, t7⟩
  have h7 := hid i7
  have q7 := hid (q6.out.trans t7)
  have r7 := hid (r6.out.touch t7 hnb)
  have d7 := hid (show DBlk w7 d _ _ from Blk.touch d6.out t7 hdb)
  clear i7 t7
  have y0 := Blk.cell d7.out 0 (v := .int .i64 0) rfl
  have yf := Blk.free d7.out
  have yz := Blk.lt d7.out
  have Hs := hid ((PRd.setD_iff hfr.out 0 (.int .i64 5)).2 h7.out)
  have Qs := hid ((Touch2.setD_iff (b := b) (d := d) 0 (.int .i64 5)).2 (Touch2.of q7.out))
  have Rs := hid (r7.out.setOther hne 0 (.int .i64 5))
  have Ds := hid (show DBlk (w7.setCell ⟨d, 0, none⟩ (.int .i64 5)) d { Po.zeroDecl with kind := 5, line := pl, col := pc } (.slice none 0 0) from Blk.set d7.out 0 (.int .i64 5))
  go_wp2_with fail
  clear y0 yf yz
  refine (prule_any Hs.out hfr.out Ds.out).mono ?_
  rintro en wr ⟨rfl, hr, dr0, tr⟩
  have hr' := hid hr
  have qr := hid (Qs.out.trans tr)
  have rr := hid (show DBlk wr w.heap.size Po.zeroDecl (.slice none 0 0) from Touch2.blk Rs.out tr hnb hne)
  have orow := hid (Row.nil wr 4)
  have oown : Hid (∀ k, (Value.slice none 0 0).ownBlock = some k → w.heap.size ≤ k) := hid (fun k hk => by cases hk)
  generalize hDz : Po.ruleV T e { Po.zeroDecl with kind := 5, line := pl, col := pc } (Po.on st) = Dz at *
  have hbx : Hid (Dz.boxes = []) := hid (by rw [← hDz]; rfl)
  have dr := hid dr0
  clear hr dr0 tr hDz
  go_wp2_with fail
  refine (pwant_any hr'.out _).mono ?_
  rintro en wz ⟨rfl, hz, tz⟩
  have hz' := hid hz
  have qz := hid ((qr.out.touch tz).own hn2)
  have dz := hid (show Blk wz d (declCells Dz (.slice none 0 0)) 83 from Blk.touch dr.out tz hdb)
  have rz := hid (show Blk wz w.heap.size (declCells Po.zeroDecl (.slice none 0 0)) 83 from Blk.touch rr.out tz hnb)
  have oz := hid (Row.touch orow.out tz (fun e => by have := oown.out _ e; omega))
  clear hz tz
  go_wp2_with (first | (refine wpList_load_blk rfl 83 (.tmp 3) rfl 48 rfl d 83 (declCells Dz (.slice none 0 0)) dz.out rfl Tryz.underlying83 rfl (by kernel_rfl) ?_) | (refine wpList_store_blk rfl 83 (.tmp 2) (.tmp 48) rfl rfl w.heap.size 83 _ (declCells Dz (.slice none 0 0)) rz.out rfl rfl (by kernel_rfl) rfl (declCells_one _ rfl) ?_))
  rw [es.out, ed.out]
  refine bodyPost_ret (v := .agg (declCells Dz (.slice none 0 0))) (results_blk (p := 2) (ty := 83) rfl _ _ w.heap.size 83 _ rfl (rz.out.setRow _) Tryz.underlying83 rfl (by kernel_rfl)) rfl ⟨_, rfl, ?_, oown.out, PRd.later h'.out hz'.out hn1 ((Touch.refl _ _).setRow _), qz.out.setRowNew hn1 _⟩
  rw [hbx.out]
  exact Row.nil _ _

set_option maxRecDepth 100000 in
set_option maxHeartbeats 16000000 in
theorem pdecl_5 {w : World} {b : Nat} {pa : Option Addr} {cp : Nat} {T : List Lx.Tok} {e : Nat × Nat} {st : Po.St} (h : PRd w b pa cp T e st) (hs0 : Po.is T Po.wRole st = false) (hs1 : Po.is T Po.wLabel st = false) (hs2 : Po.is T Po.wRegion st = false) (hs3 : Po.is T Po.wAllow st = false) (hs4 : Po.is T Po.wCap st = false) (hs5 : Po.is T Po.wCloak st = true) :
    Calls Tryz.prog 30 #[.pointer (some ⟨b, 0, none⟩)] w (DeclPost w b pa cp T e st) := by
  unfold DeclPost
  have h' := hid h
  have hblt : b < w.heap.size := h.blk.lt
  have hn1 := Nat.le_refl w.heap.size
  have hnb : w.heap.size ≠ b := by omega
  have hz1 := balloc w (.cells #[.int .i64 0, .string ⟨#[]⟩, .int .i64 0, .slice none 0 0, .bool false, .string ⟨#[]⟩, .int .i64 0, .int .i64 0, .int .i64 0, .int .i64 0, .int .i64 0, .bool false, .string ⟨#[]⟩, .int .i64 0, .int .i64 0, .int .i64 0, .bool false, .string ⟨#[]⟩, .int .i64 0, .int .i64 0, .int .i64 0, .int .i64 0, .int .i64 0, .int .i64 0] 83)
  have ha := hid (h.ext hz1)
  have qa := hid (Touch.of_below (b := b) hz1)
  have ra := hid (Blk.new w #[.int .i64 0, .string ⟨#[]⟩, .int .i64 0, .slice none 0 0, .bool false, .string ⟨#[]⟩, .int .i64 0, .int .i64 0, .int .i64 0, .int .i64 0, .int .i64 0, .bool false, .string ⟨#[]⟩, .int .i64 0, .int .i64 0, .int .i64 0, .bool false, .string ⟨#[]⟩, .int .i64 0, .int .i64 0, .int .i64 0, .int .i64 0, .int .i64 0, .int .i64 0] 83)
  have ed := hid (show Po.declV T e st = Po.cloakV T e (Po.declAt T e st 6) (Po.on st) by unfold Po.declV; rw [if_neg (by rw [hs0]; decide), if_neg (by rw [hs1]; decide), if_neg (by rw [hs2]; decide), if_neg (by rw [hs3]; decide), if_neg (by rw [hs4]; decide), if_pos hs5])
  have es := hid (show Po.declS T e st = Po.want T e [59] (Po.cloakS T e (Po.on st)) by unfold Po.declS; rw [if_neg (by rw [hs0]; decide), if_neg (by rw [hs1]; decide), if_neg (by rw [hs2]; decide), if_neg (by rw [hs3]; decide), if_neg (by rw [hs4]; decide), if_pos hs5])
  have hc0 := fun w' h => ptook_no (w := w') (b := b) (pa := pa) (cp := cp) (e := e) h (s := ⟨#[114, 111, 108, 101]⟩) hs0
  have hc1 := fun w' h => ptook_no (w := w') (b := b) (pa := pa) (cp := cp) (e := e) h (s := ⟨#[108, 97, 98, 101, 108]⟩) hs1
  have hc2 := fun w' h => ptook_no (w := w') (b := b) (pa := pa) (cp := cp) (e := e) h (s := ⟨#[114, 101, 103, 105, 111, 110]⟩) hs2
  have hc3 := fun w' h => ptook_no (w := w') (b := b) (pa := pa) (cp := cp) (e := e) h (s := ⟨#[97, 108, 108, 111, 119]⟩) hs3
  have hc4 := fun w' h => ptook_no (w := w') (b := b) (pa := pa) (cp := cp) (e := e) h (s := ⟨#[99, 97, 112]⟩) hs4
  have hc := fun w' h => ptook_yes (w := w') (b := b) (pa := pa) (cp := cp) (e := e) h (s := ⟨#[99, 108, 111, 97, 107]⟩) hs5
  clear hs0 hs1 hs2 hs3 hs4 hs5
  clear h hz1
  go_enter Tryz.func30, Tryz.ntmps30
  go_wp2_with fail
  refine (pplace_any ha.out).mono ?_
  rintro en w1 ⟨rfl, hb1⟩
  have hsz1 := hb1.size
  simp only [World.size_alloc] at hsz1
  have hpl : ∃ pl pc : Nat, Po.place T e st = (pl, pc) := ⟨_, _, rfl⟩
  obtain ⟨pl, pc, hpl⟩ := hpl
  have hda : Hid (∀ k, Po.declAt T e st k = { Po.zeroDecl with kind := k, line := pl, col := pc }) := hid (fun k => by unfold Po.declAt; rw [hpl])
  rw [hda.out] at ed
  rw [hpl]
  clear hpl
  simp only
  have hz := balloc w1 (.cells (declCells { Po.zeroDecl with kind := 0, line := pl, col := pc } (.slice none 0 0)) 83)
  have h2 := hid ((ha.out.ext hb1).ext hz)
  have q2 := hid ((qa.out.below hb1).below hz)
  have r2 := hid ((ra.out.ext hb1).ext hz)
  have d2 := hid (show DBlk (w1.alloc (.cells (declCells { Po.zeroDecl with kind := 0, line := pl, col := pc } (.slice none 0 0)) 83)) w1.heap.size { Po.zeroDecl with kind := 0, line := pl, col := pc } (.slice none 0 0) from Blk.new w1 _ _)
  have hne : w.heap.size ≠ w1.heap.size := by omega
  have hnd : w1.heap.size ≠ w.heap.size := by omega
  have hdb : w1.heap.size ≠ b := by omega
  have hn2 : w.heap.size ≤ w1.heap.size := by omega
  have hfr := hid (free_of h'.out hn2)
  clear hz
  go_wp2_with (first | (refine wpList_buildTo rfl 83 #[(10, .tmp 6)] rfl (some 7) rfl (declCells { Po.zeroDecl with kind := 0, line := pl, col := pc } (.slice none 0 0)) (by kernel_rfl) ?_) | (refine wpList_store_new rfl 83 (.tmp 3) (.tmp 7) rfl rfl w1 83 _ (declCells { Po.zeroDecl with kind := 0, line := pl, col := pc } (.slice none 0 0)) rfl rfl rfl (by kernel_rfl) rfl (declCells_one _ rfl) ?_))
  generalize w1.alloc (.cells (declCells { Po.zeroDecl with kind := 0, line := pl, col := pc } (.slice none 0 0)) 83) = w2 at *
  generalize w1.heap.size = d at *
  refine (hc0 _ h2.out).mono ?_
  rintro en w3 ⟨rfl, i3, t3⟩
  have h3 := hid i3
  have q3 := hid (q2.out.trans t3)
  have r3 := hid (r2.out.touch t3 hnb)
  have d3 := hid (show DBlk w3 d _ _ from Blk.touch d2.out t3 hdb)
  clear i3 t3
  go_wp2_with fail
  refine (hc1 _ h3.out).mono ?_
  rintro en w4 ⟨rfl, i4, t4⟩
  have h4 := hid i4
  have q4 := hid (q3.out.trans t4)
  have r4 := hid (r3.out.touch t4 hnb)
  have d4 := hid (show DBlk w4 d _ _ from Blk.touch d3.out t4 hdb)
  clear i4 t4
  go_wp2_with fail
  refine (hc2 _ h4.out).mono ?_
  rintro en w5 ⟨rfl, i5, t5⟩
  have h5 := hid i5
  have q5 := hid (q4.out.trans t5)
  have r5 := hid (r4.out.touch t5 hnb)
  have d5 := hid (show DBlk w5 d _ _ from Blk.touch d4.out t5 hdb)
  clear i5 t5
  go_wp2_with fail
  refine (hc3 _ h5.out).mono ?_
  rintro en w6 ⟨rfl, i6, t6⟩
  have h6 := hid i6
  have q6 := hid (q5.out.trans t6)
  have r6 := hid (r5.out.touch t6 hnb)
  have d6 := hid (show DBlk w6 d _ _ from Blk.touch d5.out t6 hdb)
  clear i6 t6
  go_wp2_with fail
  refine (hc4 _ h6.out).mono ?_
  rintro en w7 ⟨rfl, i7, t7⟩
  have h7 := hid i7
  have q7 := hid (q6.out.trans t7)
  have r7 := hid (r6.out.touch t7 hnb)
  have d7 := hid (show DBlk w7 d _ _ from Blk.touch d6.out t7 hdb)
  clear i7 t7
  go_wp2_with fail
  refine (hc _ h7.out).mono ?_
  rintro en w8 ⟨rfl, i8, t8⟩
  have h8 := hid i8
  have q8 := hid (q7.out.trans t8)
  have r8 := hid (r7.out.touch t8 hnb)
  have d8 := hid (show DBlk w8 d _ _ from Blk.touch d7.out t8 hdb)
  clear i8 t8
  have y0 := Blk.cell d8.out 0 (v := .int .i64 0) rfl
  have yf := Blk.free d8.out
  have yz := Blk.lt d8.out
  have Hs := hid ((PRd.setD_iff hfr.out 0 (.int .i64 6)).2 h8.out)
  have Qs := hid ((Touch2.setD_iff (b := b) (d := d) 0 (.int .i64 6)).2 (Touch2.of q8.out))
  have Rs := hid (r8.out.setOther hne 0 (.int .i64 6))
  have Ds := hid (show DBlk (w8.setCell ⟨d, 0, none⟩ (.int .i64 6)) d { Po.zeroDecl with kind := 6, line := pl, col := pc } (.slice none 0 0) from Blk.set d8.out 0 (.int .i64 6))
  go_wp2_with fail
  clear y0 yf yz
  refine (pcloak_any Hs.out hfr.out Ds.out).mono ?_
  rintro en wr ⟨rfl, hr, dr0, tr⟩
  have hr' := hid hr
  have qr := hid (Qs.out.trans tr)
  have rr := hid (show DBlk wr w.heap.size Po.zeroDecl (.slice none 0 0) from Touch2.blk Rs.out tr hnb hne)
  have orow := hid (Row.nil wr 4)
  have oown : Hid (∀ k, (Value.slice none 0 0).ownBlock = some k → w.heap.size ≤ k) := hid (fun k hk => by cases hk)
  generalize hDz : Po.cloakV T e { Po.zeroDecl with kind := 6, line := pl, col := pc } (Po.on st) = Dz at *
  have hbx : Hid (Dz.boxes = []) := hid (by rw [← hDz]; rfl)
  have dr := hid dr0
  clear hr dr0 tr hDz
  go_wp2_with fail
  refine (pwant_any hr'.out _).mono ?_
  rintro en wz ⟨rfl, hz, tz⟩
  have hz' := hid hz
  have qz := hid ((qr.out.touch tz).own hn2)
  have dz := hid (show Blk wz d (declCells Dz (.slice none 0 0)) 83 from Blk.touch dr.out tz hdb)
  have rz := hid (show Blk wz w.heap.size (declCells Po.zeroDecl (.slice none 0 0)) 83 from Blk.touch rr.out tz hnb)
  have oz := hid (Row.touch orow.out tz (fun e => by have := oown.out _ e; omega))
  clear hz tz
  go_wp2_with (first | (refine wpList_load_blk rfl 83 (.tmp 3) rfl 48 rfl d 83 (declCells Dz (.slice none 0 0)) dz.out rfl Tryz.underlying83 rfl (by kernel_rfl) ?_) | (refine wpList_store_blk rfl 83 (.tmp 2) (.tmp 48) rfl rfl w.heap.size 83 _ (declCells Dz (.slice none 0 0)) rz.out rfl rfl (by kernel_rfl) rfl (declCells_one _ rfl) ?_))
  rw [es.out, ed.out]
  refine bodyPost_ret (v := .agg (declCells Dz (.slice none 0 0))) (results_blk (p := 2) (ty := 83) rfl _ _ w.heap.size 83 _ rfl (rz.out.setRow _) Tryz.underlying83 rfl (by kernel_rfl)) rfl ⟨_, rfl, ?_, oown.out, PRd.later h'.out hz'.out hn1 ((Touch.refl _ _).setRow _), qz.out.setRowNew hn1 _⟩
  rw [hbx.out]
  exact Row.nil _ _

set_option maxRecDepth 100000 in
set_option maxHeartbeats 16000000 in
theorem pdecl_6 {w : World} {b : Nat} {pa : Option Addr} {cp : Nat} {T : List Lx.Tok} {e : Nat × Nat} {st : Po.St} (h : PRd w b pa cp T e st) (hs0 : Po.is T Po.wRole st = false) (hs1 : Po.is T Po.wLabel st = false) (hs2 : Po.is T Po.wRegion st = false) (hs3 : Po.is T Po.wAllow st = false) (hs4 : Po.is T Po.wCap st = false) (hs5 : Po.is T Po.wCloak st = false) :
    Calls Tryz.prog 30 #[.pointer (some ⟨b, 0, none⟩)] w (DeclPost w b pa cp T e st) := by
  unfold DeclPost
  have h' := hid h
  have hblt : b < w.heap.size := h.blk.lt
  have hn1 := Nat.le_refl w.heap.size
  have hnb : w.heap.size ≠ b := by omega
  have hz1 := balloc w (.cells #[.int .i64 0, .string ⟨#[]⟩, .int .i64 0, .slice none 0 0, .bool false, .string ⟨#[]⟩, .int .i64 0, .int .i64 0, .int .i64 0, .int .i64 0, .int .i64 0, .bool false, .string ⟨#[]⟩, .int .i64 0, .int .i64 0, .int .i64 0, .bool false, .string ⟨#[]⟩, .int .i64 0, .int .i64 0, .int .i64 0, .int .i64 0, .int .i64 0, .int .i64 0] 83)
  have ha := hid (h.ext hz1)
  have qa := hid (Touch.of_below (b := b) hz1)
  have ra := hid (Blk.new w #[.int .i64 0, .string ⟨#[]⟩, .int .i64 0, .slice none 0 0, .bool false, .string ⟨#[]⟩, .int .i64 0, .int .i64 0, .int .i64 0, .int .i64 0, .int .i64 0, .bool false, .string ⟨#[]⟩, .int .i64 0, .int .i64 0, .int .i64 0, .bool false, .string ⟨#[]⟩, .int .i64 0, .int .i64 0, .int .i64 0, .int .i64 0, .int .i64 0, .int .i64 0] 83)
  have ed := hid (show Po.declV T e st = Po.ruleV T e (Po.declAt T e st 0) (Po.wrong T e st) by unfold Po.declV; rw [if_neg (by rw [hs0]; decide), if_neg (by rw [hs1]; decide), if_neg (by rw [hs2]; decide), if_neg (by rw [hs3]; decide), if_neg (by rw [hs4]; decide), if_neg (by rw [hs5]; decide)])
  have es := hid (show Po.declS T e st = Po.want T e [59] (Po.ruleS T e (Po.wrong T e st)) by unfold Po.declS; rw [if_neg (by rw [hs0]; decide), if_neg (by rw [hs1]; decide), if_neg (by rw [hs2]; decide), if_neg (by rw [hs3]; decide), if_neg (by rw [hs4]; decide), if_neg (by rw [hs5]; decide)])
  have hc0 := fun w' h => ptook_no (w := w') (b := b) (pa := pa) (cp := cp) (e := e) h (s := ⟨#[114, 111, 108, 101]⟩) hs0
  have hc1 := fun w' h => ptook_no (w := w') (b := b) (pa := pa) (cp := cp) (e := e) h (s := ⟨#[108, 97, 98, 101, 108]⟩) hs1
  have hc2 := fun w' h => ptook_no (w := w') (b := b) (pa := pa) (cp := cp) (e := e) h (s := ⟨#[114, 101, 103, 105, 111, 110]⟩) hs2
  have hc3 := fun w' h => ptook_no (w := w') (b := b) (pa := pa) (cp := cp) (e := e) h (s := ⟨#[97, 108, 108, 111, 119]⟩) hs3
  have hc4 := fun w' h => ptook_no (w := w') (b := b) (pa := pa) (cp := cp) (e := e) h (s := ⟨#[99, 97, 112]⟩) hs4
  have hc5 := fun w' h => ptook_no (w := w') (b := b) (pa := pa) (cp := cp) (e := e) h (s := ⟨#[99, 108, 111, 97, 107]⟩) hs5
  clear hs0 hs1 hs2 hs3 hs4 hs5
  clear h hz1
  go_enter Tryz.func30, Tryz.ntmps30
  go_wp2_with fail
  refine (pplace_any ha.out).mono ?_
  rintro en w1 ⟨rfl, hb1⟩
  have hsz1 := hb1.size
  simp only [World.size_alloc] at hsz1
  have hpl : ∃ pl pc : Nat, Po.place T e st = (pl, pc) := ⟨_, _, rfl⟩
  obtain ⟨pl, pc, hpl⟩ := hpl
  have hda : Hid (∀ k, Po.declAt T e st k = { Po.zeroDecl with kind := k, line := pl, col := pc }) := hid (fun k => by unfold Po.declAt; rw [hpl])
  rw [hda.out] at ed
  rw [hpl]
  clear hpl
  simp only
  have hz := balloc w1 (.cells (declCells { Po.zeroDecl with kind := 0, line := pl, col := pc } (.slice none 0 0)) 83)
  have h2 := hid ((ha.out.ext hb1).ext hz)
  have q2 := hid ((qa.out.below hb1).below hz)
  have r2 := hid ((ra.out.ext hb1).ext hz)
  have d2 := hid (show DBlk (w1.alloc (.cells (declCells { Po.zeroDecl with kind := 0, line := pl, col := pc } (.slice none 0 0)) 83)) w1.heap.size { Po.zeroDecl with kind := 0, line := pl, col := pc } (.slice none 0 0) from Blk.new w1 _ _)
  have hne : w.heap.size ≠ w1.heap.size := by omega
  have hnd : w1.heap.size ≠ w.heap.size := by omega
  have hdb : w1.heap.size ≠ b := by omega
  have hn2 : w.heap.size ≤ w1.heap.size := by omega
  have hfr := hid (free_of h'.out hn2)
  clear hz
  go_wp2_with (first | (refine wpList_buildTo rfl 83 #[(10, .tmp 6)] rfl (some 7) rfl (declCells { Po.zeroDecl with kind := 0, line := pl, col := pc } (.slice none 0 0)) (by kernel_rfl) ?_) | (refine wpList_store_new rfl 83 (.tmp 3) (.tmp 7) rfl rfl w1 83 _ (declCells { Po.zeroDecl with kind := 0, line := pl, col := pc } (.slice none 0 0)) rfl rfl rfl (by kernel_rfl) rfl (declCells_one _ rfl) ?_))
  generalize w1.alloc (.cells (declCells { Po.zeroDecl with kind := 0, line := pl, col := pc } (.slice none 0 0)) 83) = w2 at *
  generalize w1.heap.size = d at *
  refine (hc0 _ h2.out).mono ?_
  rintro en w3 ⟨rfl, i3, t3⟩
  have h3 := hid i3
  have q3 := hid (q2.out.trans t3)
  have r3 := hid (r2.out.touch t3 hnb)
  have d3 := hid (show DBlk w3 d _ _ from Blk.touch d2.out t3 hdb)
  clear i3 t3
  go_wp2_with fail
  refine (hc1 _ h3.out).mono ?_
  rintro en w4 ⟨rfl, i4, t4⟩
  have h4 := hid i4
  have q4 := hid (q3.out.trans t4)
  have r4 := hid (r3.out.touch t4 hnb)
  have d4 := hid (show DBlk w4 d _ _ from Blk.touch d3.out t4 hdb)
  clear i4 t4
  go_wp2_with fail
  refine (hc2 _ h4.out).mono ?_
  rintro en w5 ⟨rfl, i5, t5⟩
  have h5 := hid i5
  have q5 := hid (q4.out.trans t5)
  have r5 := hid (r4.out.touch t5 hnb)
  have d5 := hid (show DBlk w5 d _ _ from Blk.touch d4.out t5 hdb)
  clear i5 t5
  go_wp2_with fail
  refine (hc3 _ h5.out).mono ?_
  rintro en w6 ⟨rfl, i6, t6⟩
  have h6 := hid i6
  have q6 := hid (q5.out.trans t6)
  have r6 := hid (r5.out.touch t6 hnb)
  have d6 := hid (show DBlk w6 d _ _ from Blk.touch d5.out t6 hdb)
  clear i6 t6
  go_wp2_with fail
  refine (hc4 _ h6.out).mono ?_
  rintro en w7 ⟨rfl, i7, t7⟩
  have h7 := hid i7
  have q7 := hid (q6.out.trans t7)
  have r7 := hid (r6.out.touch t7 hnb)
  have d7 := hid (show DBlk w7 d _ _ from Blk.touch d6.out t7 hdb)
  clear i7 t7
  go_wp2_with fail
  refine (hc5 _ h7.out).mono ?_
  rintro en w8 ⟨rfl, i8, t8⟩
  have h8 := hid i8
  have q8 := hid (q7.out.trans t8)
  have r8 := hid (r7.out.touch t8 hnb)
  have d8 := hid (show DBlk w8 d _ _ from Blk.touch d7.out t8 hdb)
  clear i8 t8
  go_wp2_with fail
  refine (pwrong_any h8.out).mono ?_
  rintro en ws ⟨rfl, hs, ts⟩
  have Hs := hid hs
  have Qs := hid (Touch2.of (d := d) (q8.out.trans ts))
  have Rs := hid (r8.out.touch ts hnb)
  have Ds := hid (show DBlk ws d _ _ from Blk.touch d8.out ts hdb)
  clear hs ts
  go_wp2_with fail
  refine (prule_any Hs.out hfr.out Ds.out).mono ?_
  rintro en wr ⟨rfl, hr, dr0, tr⟩
  have hr' := hid hr
  have qr := hid (Qs.out.trans tr)
  have rr := hid (show DBlk wr w.heap.size Po.zeroDecl (.slice none 0 0) from Touch2.blk Rs.out tr hnb hne)
  have orow := hid (Row.nil wr 4)
  have oown : Hid (∀ k, (Value.slice none 0 0).ownBlock = some k → w.heap.size ≤ k) := hid (fun k hk => by cases hk)
  generalize hDz : Po.ruleV T e { Po.zeroDecl with kind := 0, line := pl, col := pc } (Po.wrong T e st) = Dz at *
  have hbx : Hid (Dz.boxes = []) := hid (by rw [← hDz]; rfl)
  have dr := hid dr0
  clear hr dr0 tr hDz
  go_wp2_with fail
  refine (pwant_any hr'.out _).mono ?_
  rintro en wz ⟨rfl, hz, tz⟩
  have hz' := hid hz
  have qz := hid ((qr.out.touch tz).own hn2)
  have dz := hid (show Blk wz d (declCells Dz (.slice none 0 0)) 83 from Blk.touch dr.out tz hdb)
  have rz := hid (show Blk wz w.heap.size (declCells Po.zeroDecl (.slice none 0 0)) 83 from Blk.touch rr.out tz hnb)
  have oz := hid (Row.touch orow.out tz (fun e => by have := oown.out _ e; omega))
  clear hz tz
  go_wp2_with (first | (refine wpList_load_blk rfl 83 (.tmp 3) rfl 48 rfl d 83 (declCells Dz (.slice none 0 0)) dz.out rfl Tryz.underlying83 rfl (by kernel_rfl) ?_) | (refine wpList_store_blk rfl 83 (.tmp 2) (.tmp 48) rfl rfl w.heap.size 83 _ (declCells Dz (.slice none 0 0)) rz.out rfl rfl (by kernel_rfl) rfl (declCells_one _ rfl) ?_))
  rw [es.out, ed.out]
  refine bodyPost_ret (v := .agg (declCells Dz (.slice none 0 0))) (results_blk (p := 2) (ty := 83) rfl _ _ w.heap.size 83 _ rfl (rz.out.setRow _) Tryz.underlying83 rfl (by kernel_rfl)) rfl ⟨_, rfl, ?_, oown.out, PRd.later h'.out hz'.out hn1 ((Touch.refl _ _).setRow _), qz.out.setRowNew hn1 _⟩
  rw [hbx.out]
  exact Row.nil _ _

theorem pdecl_any {w : World} {b : Nat} {pa : Option Addr} {cp : Nat} {T : List Lx.Tok} {e : Nat × Nat} {st : Po.St} (h : PRd w b pa cp T e st) :
    Calls Tryz.prog 30 #[.pointer (some ⟨b, 0, none⟩)] w (DeclPost w b pa cp T e st) := by
  cases hs0 : Po.is T Po.wRole st with
  | true => exact pdecl_0 h hs0
  | false =>
  cases hs1 : Po.is T Po.wLabel st with
  | true => exact pdecl_1 h hs0 hs1
  | false =>
  cases hs2 : Po.is T Po.wRegion st with
  | true => exact pdecl_2 h hs0 hs1 hs2
  | false =>
  cases hs3 : Po.is T Po.wAllow st with
  | true => exact pdecl_3 h hs0 hs1 hs2 hs3
  | false =>
  cases hs4 : Po.is T Po.wCap st with
  | true => exact pdecl_4 h hs0 hs1 hs2 hs3 hs4
  | false =>
  cases hs5 : Po.is T Po.wCloak st with
  | true => exact pdecl_5 h hs0 hs1 hs2 hs3 hs4 hs5
  | false =>
  exact pdecl_6 h hs0 hs1 hs2 hs3 hs4 hs5

end Go.Proofs.YteddkgpnklfppaaGreatDoor
