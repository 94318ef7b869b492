/-
  Plain laws: how long a form is; the fixed calls of the laws' known. No program.
  Law 11: the walk of known.
  The walk of TopPolicy: where the text has no rules.
-/
import Derived.Test.YteddkgpnklfppaaGreatDoorPk25
import Derived.Test.YteddkgpnklfppaaGreatDoorPk19
import Derived.KernelRfl
import Derived.Test.YteddkgpnklfppaaGreatDoorPk28

namespace Go.Proofs.YteddkgpnklfppaaGreatDoor.Pt
open Lx Po

theorem dec_len (k : Nat) : ∀ u : Nat, u < 10 ^ (k + 1) → (Go.Lib.decDigits u).length ≤ k + 1 := by
  induction k with
  | zero => intro u h; rw [Go.Lib.decDigits, dif_pos (by simpa using h)]; simp
  | succ k ih =>
    intro u h
    rw [Go.Lib.decDigits]
    split
    · simp
    · rw [List.length_append, List.length_singleton]
      have := ih (u / 10) (by rw [Nat.pow_succ] at h; omega)
      omega
theorem itoa_len {n : Int} (h : Ru.num n = true) : (Go.Lib.itoa n).length ≤ 5 := by
  unfold Ru.num at h
  simp only [Bool.and_eq_true, decide_eq_true_eq] at h
  unfold Go.Lib.itoa
  rw [if_neg (by omega)]
  exact dec_len 4 _ (by have := h.1; have := h.2; show n.toNat < 100000; omega)
theorem name_len {s : Bytes} (h : isName s = true) : s.length ≤ 16 := by
  cases s with
  | nil => simp
  | cons c s => unfold isName at h; simp only [Bool.and_eq_true, decide_eq_true_eq] at h; exact h.1.1.1
theorem who_len {all : Bytes} (ha : all.length ≤ 16) {w : Who} (h : Ru.rightW w = true) : (whoB all w).length ≤ 16 := by
  unfold whoB
  unfold Ru.rightW at h
  split
  · exact ha
  · rename_i hf
    rw [if_neg hf] at h
    split
    · rename_i h0
      rw [h0] at h
      have := itoa_len (show Ru.num w.n = true by simpa using h)
      omega
    · rename_i h0
      rw [if_neg (by simpa using h0)] at h
      simp only [Bool.and_eq_true] at h
      exact name_len h.2
theorem tiers_len {lo hi : Int} (h1 : Ru.num lo = true) (h2 : Ru.num hi = true) : (tiersB lo hi).length ≤ 12 := by
  have a := itoa_len h1
  have b := itoa_len h2
  unfold tiersB
  split
  · decide
  · split
    · omega
    · simp only [List.length_append, List.length_cons, List.length_nil]; omega
theorem box_len {b : Box} (h : Ru.boxN b = true) : (boxB b).length ≤ 24 := by
  unfold Ru.boxN at h
  simp only [Bool.and_eq_true] at h
  have a := itoa_len h.1.1.1
  have c := itoa_len h.1.1.2
  have d := itoa_len h.1.2
  have e := itoa_len h.2
  unfold boxB put
  simp only [List.flatMap_cons, List.flatMap_nil, List.length_append, List.length_cons, List.length_nil]
  omega
theorem boxes_len {l : List Box} (h : ∀ b ∈ l, Ru.boxN b = true) : (boxesB l).length ≤ 26 * l.length := by
  have key : ∀ l : List Box, (∀ b ∈ l, Ru.boxN b = true) → (l.flatMap plusB).length ≤ 26 * l.length := fun l => by
    induction l with
    | nil => intro _; simp
    | cons b l ih =>
      intro h
      have h1 := box_len (h b (by simp))
      have h2 := ih (fun x hx => h x (List.mem_cons_of_mem _ hx))
      rw [List.flatMap_cons, List.length_append, List.length_cons]
      have : (plusB b).length = 2 + (boxB b).length := by unfold plusB put; simp; omega
      omega
  cases l with
  | nil => simp [boxesB]
  | cons b l =>
    have h1 := box_len (h b (by simp))
    have h2 := key l (fun x hx => h x (List.mem_cons_of_mem _ hx))
    unfold boxesB
    rw [List.length_append, List.length_cons]
    omega
theorem line_len {d : Decl} (h : Ru.may d = true) : (lineB d).length ≤ 110 + 26 * d.boxes.length := by
  have hm := may_cases h
  have hf : (firstB d.kind).length ≤ 6 := by
    unfold firstB
    repeat' split
    all_goals decide
  have hp1 : ∀ a : Bytes, (put [a]).length = 1 + a.length := fun a => by unfold put; simp; omega
  have hp2 : ∀ a b : Bytes, (put [a, b]).length = 2 + a.length + b.length := fun a b => by unfold put; simp; omega
  have hp3 : ∀ a b c : Bytes, (put [a, b, c]).length = 3 + a.length + b.length + c.length := fun a b c => by unfold put; simp; omega
  unfold lineB
  rw [List.length_append, List.length_append]
  have : (restB d).length ≤ 100 + 26 * d.boxes.length := by
    unfold restB
    cases hm with
    | named h hn hi hb hr hz =>
      rw [if_pos h, hp3]
      have := name_len hn
      have := itoa_len hi
      simp only [List.length_cons, List.length_nil]
      omega
    | region h hn hi hb h0 hr hz =>
      rw [if_neg (by omega), if_pos h, List.length_append, hp2]
      have := name_len hn
      have := boxes_len hb
      simp only [List.length_cons, List.length_nil]
      omega
    | rule h hn hi hb hr h1 h2 h3 hl hp =>
      rw [if_neg (by omega), if_neg (by omega), if_neg (by omega)]
      simp only [List.length_append, hp1, hp2]
      have a1 := who_len (all := wAny) (by decide) hr
      have a2 := who_len (all := wAny) (by decide) hl
      have a3 := who_len (all := wAll) (by decide) (place_right hp)
      have a4 := tiers_len h1 h2
      have a5 := itoa_len h3
      have b1 : wRole.length = 4 := rfl
      have b2 : wTier.length = 4 := rfl
      have b3 : wLabel.length = 5 := rfl
      have b4 : wIn.length = 2 := rfl
      have b5 : wZoom.length = 4 := rfl
      omega
    | cloak h hn hi hb hr hz =>
      rw [if_neg (by omega), if_neg (by omega), if_pos h, List.length_append, hp1, hp1]
      have a1 := who_len (all := wAny) (by decide) hr
      have b1 : wRole.length = 4 := rfl
      omega
  simp only [List.length_cons, List.length_nil]
  omega
theorem lines_len {M : Nat} (l : List Decl) (h : ∀ d ∈ l, Ru.may d = true) (hb : ∀ d ∈ l, d.boxes.length ≤ M) : (l.flatMap lineB).length ≤ l.length * (110 + 26 * M) := by
  induction l with
  | nil => simp
  | cons d l ih =>
    have h1 := line_len (h d (by simp))
    have h2 := hb d (by simp)
    have h3 := ih (fun x hx => h x (List.mem_cons_of_mem _ hx)) (fun x hx => hb x (List.mem_cons_of_mem _ hx))
    have h4 : 26 * d.boxes.length ≤ 26 * M := Nat.mul_le_mul_left 26 h2
    rw [List.flatMap_cons, List.length_append, List.length_cons, Nat.add_mul]
    omega
/-- what is read out of a text has a form that is not too long -/
theorem parse_lines {L : Bytes} {ds : List Decl} (h : parse L = .ok ds) : (ds.flatMap lineB).length ≤ 140737488355328 := by
  obtain ⟨h1, h2⟩ := parse_small h
  have h3 := lines_len (M := 600) ds (parse_may h) (fun d hd => (h2 d hd).boxes)
  have : ds.length * (110 + 26 * 600) ≤ 513 * (110 + 26 * 600) := Nat.mul_le_mul_right _ h1
  omega

/-! ### known -/
def kText : ByteArray := ⟨#[99, 97, 112, 32, 114, 111, 108, 101, 32, 97, 110, 121, 32, 116, 105, 101, 114, 32, 48, 46, 46, 55, 32, 108, 97, 98, 101, 108, 32, 50, 32, 105, 110, 32, 97, 108, 108, 32, 122, 111, 111, 109, 32, 56, 32, 59]⟩
def kBad : ByteArray := ⟨#[114, 111, 108, 101, 32, 61, 32, 51, 59]⟩
def kForm : Bytes := [99, 97, 112, 32, 114, 111, 108, 101, 32, 97, 110, 121, 32, 116, 105, 101, 114, 32, 97, 110, 121, 32, 108, 97, 98, 101, 108, 32, 50, 32, 105, 110, 32, 97, 108, 108, 32, 122, 111, 111, 109, 32, 56, 59, 10]
def kDecls : List Decl := match parse kText.data.toList with | .ok ds => ds | .error _ => []
theorem kParse : parse kText.data.toList = .ok kDecls := by
  have h : (match parse kText.data.toList with | .ok _ => true | .error _ => false) = true := by decide +kernel
  unfold kDecls
  cases hp : parse kText.data.toList with
  | ok ds => rfl
  | error f => rw [hp] at h; cases h
theorem kParseBad : parse kBad.data.toList = .error (31, 1, 6) := by kernel_rfl
theorem kFields : kDecls.map (fun d => (d.kind, d.role.any, d.lo, d.hi, d.label.any, d.label.name.data.toList, d.label.n, d.place.any, d.zoom)) = [(5, true, 0, 7, false, [], 2, true, 8)] := by kernel_rfl
theorem kMay : kDecls.all Ru.may = true := by kernel_rfl
theorem itoa_digit (n : Nat) (h : n < 10) : Go.Lib.itoa (n : Int) = [UInt8.ofNat (48 + n)] := by
  unfold Go.Lib.itoa
  rw [if_neg (by omega), Go.Lib.decDigits, dif_pos (by omega)]
  rfl
theorem kPrint : printB kDecls = kForm := by
  unfold printB
  rw [if_pos kMay]
  have h := kFields
  generalize kDecls = l at h
  cases l with
  | nil => simp at h
  | cons d l =>
    cases l with
    | cons e l => simp at h
    | nil =>
      simp only [List.map_cons, List.map_nil, List.cons.injEq, Prod.mk.injEq, and_true] at h
      obtain ⟨h1, h2, h3, h4, h5, h6, h7, h8, h9⟩ := h
      have i2 := itoa_digit 2 (by omega)
      have i8 := itoa_digit 8 (by omega)
      simp only [List.flatMap_cons, List.flatMap_nil, List.append_nil]
      have e1 : whoB wAny d.role = wAny := by unfold whoB; rw [h2]; rfl
      have e2 : tiersB d.lo d.hi = wAny := by unfold tiersB; rw [h3, h4]; rfl
      have e3 : whoB wAny d.label = [50] := by unfold whoB; rw [h5, h6, h7]; exact i2
      have e4 : whoB wAll d.place = wAll := by unfold whoB; rw [h8]; rfl
      have e5 : Go.Lib.itoa d.zoom = [56] := by rw [h9]; exact i8
      unfold lineB restB
      rw [if_neg (by omega), if_neg (by omega), if_neg (by omega), h1, e1, e2, e3, e4, e5]
      rfl

end Go.Proofs.YteddkgpnklfppaaGreatDoor.Pt

namespace Go.Proofs.YteddkgpnklfppaaGreatDoor
open Go.RowKit Go.Sort

/-- what a text's declarations are, for who walks on -/
theorem read1 {L : Lx.Bytes} {ds : List Po.Decl} (h : Po.parse L = .ok ds) : ds.length ≤ 513 ∧ (∀ d ∈ ds, DSmall d) ∧ (ds.flatMap Pt.lineB).length ≤ 140737488355328 := by
  obtain ⟨h1, h2⟩ := Po.parse_small h
  exact ⟨h1, fun d hd => DSmall.of (h2 d hd), Pt.parse_lines h⟩
theorem printR_any {L : Lx.Bytes} {ds : List Po.Decl} (hp : Po.parse L = .ok ds) {w : World} {v : Value} (h : DSl w v ds) (ht : TabU w) :
    Calls Tryz.prog 12 #[v] w fun e w' => e = .returned (.string ⟨(Pt.printB ds).toArray⟩) ∧ Below w.heap.size w w' := by
  obtain ⟨h1, h2, h3⟩ := read1 hp
  exact print_any h (by omega) h2 ht (fun _ => h3)

end Go.Proofs.YteddkgpnklfppaaGreatDoor

namespace Go.Proofs.YteddkgpnklfppaaGreatDoor
open Go.RowKit Go.Sort Go.Maps

def viewArr (a b c : Int) : Array Value := #[.int .i64 a, .int .i64 b, .int .i64 c]
/-- the three arguments in memory -/
structure Args3 (w : World) (vb : Nat) (a b c x y x0 y0 x1 y1 : Int) : Prop where
  v : Blk w vb #[.int .i64 a, .int .i64 b, .int .i64 c] 23
  p : Blk w (vb + 1) #[.int .i64 x, .int .i64 y] 25
  r : Blk w (vb + 1 + 1) #[.int .i64 x0, .int .i64 y0, .int .i64 x1, .int .i64 y1] 27
theorem Args3.ext {w w' : World} {vb : Nat} {a b c x y x0 y0 x1 y1 : Int} (h : Args3 w vb a b c x y x0 y0 x1 y1) (hb : Below w.heap.size w w') : Args3 w' vb a b c x y x0 y0 x1 y1 := ⟨h.v.ext hb, h.p.ext hb, h.r.ext hb⟩
theorem Args3.touch {w w' : World} {vb k : Nat} {a b c x y x0 y0 x1 y1 : Int} (h : Args3 w vb a b c x y x0 y0 x1 y1) (ht : Touch k w w') (hk : vb + 2 < k) : Args3 w' vb a b c x y x0 y0 x1 y1 := ⟨h.v.touch ht (by omega), h.p.touch ht (by omega), h.r.touch ht (by omega)⟩

set_option maxRecDepth 100000 in
set_option maxHeartbeats 4000000 in
theorem tpolicy_bad {s : ByteArray} {w : World} (a b c x y x0 y0 x1 y1 : Int)
    (hr : ∀ w1 : World, Calls Tryz.prog 4 #[.string s] w1 fun e w' => (∃ er l k : Int, e = .returned (.tuple #[.slice none 0 0, .agg #[.int .i64 er, .int .i64 l, .int .i64 k]]) ∧ er ≠ 0) ∧ Below w1.heap.size w1 w') :
    Calls Tryz.prog 3 #[.string s, .agg #[.int .i64 a, .int .i64 b, .int .i64 c], .agg #[.int .i64 x, .int .i64 y], .agg #[.int .i64 x0, .int .i64 y0, .int .i64 x1, .int .i64 y1]] w fun e w' => e = .returned (.bool true) ∧ Below w.heap.size w w' := by
  have z1 := balloc w (.cells #[.int .i64 a, .int .i64 b, .int .i64 c] 23)
  have z2 := balloc (w.alloc (.cells #[.int .i64 a, .int .i64 b, .int .i64 c] 23)) (.cells #[.int .i64 x, .int .i64 y] 25)
  have z3 := balloc ((w.alloc (.cells #[.int .i64 a, .int .i64 b, .int .i64 c] 23)).alloc (.cells #[.int .i64 x, .int .i64 y] 25)) (.cells #[.int .i64 x0, .int .i64 y0, .int .i64 x1, .int .i64 y1] 27)
  have Q0 := hid (bthen (bthen z1 z2) z3)
  have R0 := hid hr
  clear z1 z2 z3 hr
  go_enter Tryz.func3, Tryz.ntmps3
  go_wp2_with fail
  refine (R0.out _).mono ?_
  rintro e w1 ⟨⟨er, l, k, rfl, her⟩, hb1⟩
  have z4 := balloc w1 (.cells #[.int .i64 er, .int .i64 l, .int .i64 k] 33)
  have Q1 := hid (bthen (bthen Q0.out hb1) z4)
  have hne : ((er : Int) != 0) = true := by rw [bne_iff_ne]; exact her
  clear hb1 z4 her
  go_wp2_with fail
  refine (allowed_any _).mono ?_
  rintro e w2 ⟨rfl, hb2⟩
  have Q2 := hid (bthen Q1.out hb2)
  clear hb2
  go_wp2_with fail
  go_ret
  exact ⟨rfl, Q2.out⟩

end Go.Proofs.YteddkgpnklfppaaGreatDoor
