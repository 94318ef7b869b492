/- The walks of Same, joined. -/
import Derived.Test.YtoegepgdfnokdaaLexU
namespace Go.Proofs.Ytoegepgdfnokdaa
open Go.RowKit Go.Sort

theorem toksCells_get {ts : List Lx.Tok} {i : Nat} (hi : i < ts.length) : ∀ f, f < 5 → (toksCells ts)[i * 5 + f]? = (tokCells ts[i])[f]? := by
  intro f hf
  induction ts generalizing i with
  | nil => simp at hi
  | cons t ts ih =>
    have e : toksCells (t :: ts) = tokCells t ++ toksCells ts := rfl
    rw [e]
    cases i with
    | zero => rw [List.getElem?_append_left (by simp [tokCells]; omega)]; simp
    | succ i =>
      rw [List.getElem?_append_right (by simp [tokCells]; omega)]
      have e2 : (i + 1) * 5 + f - (tokCells t).length = i * 5 + f := by simp [tokCells]; omega
      rw [e2, ih (by simpa using hi)]
      simp

/-- a row of tokens: each cell, where it lies -/
structure TokRow (w : World) (g off cap : Nat) (ts : List Lx.Tok) : Prop where
  cap : ts.length ≤ cap
  lt : g < w.heap.size
  cell : ∀ (i : Nat) (hi : i < ts.length) (f : Nat) (u : Value), (tokCells ts[i])[f]? = some u → w.cell? ⟨g, off + i * 5 + f, none⟩ = some u
theorem tokRow_of {w : World} {v : Value} {ts : List Lx.Tok} (h : Row w v ts.length 5 (toksCells ts)) :
    (v = .slice none 0 0 ∧ ts = []) ∨ ∃ g off cap, v = .slice (some ⟨g, off, none⟩) ts.length cap ∧ TokRow w g off cap ts := by
  rcases h.2 with ⟨hv, hn⟩ | ⟨g, off, cap, hv, hn, hg, hc⟩
  · exact .inl ⟨hv, List.eq_nil_of_length_eq_zero hn⟩
  · refine .inr ⟨g, off, cap, hv, hn, hg, fun i hi f u hu => ?_⟩
    have hf : f < 5 := by
      rcases Nat.lt_or_ge f 5 with h5 | h5
      · exact h5
      · rw [List.getElem?_eq_none (by simpa [tokCells] using h5)] at hu; cases hu
    rw [show off + i * 5 + f = off + (i * 5 + f) by omega]
    exact hc _ _ (by rw [toksCells_get hi f hf]; exact hu)

/-- texts joined -/
def joinT (b : Lx.Bytes) : List Lx.Tok → Lx.Bytes
  | [] => []
  | t :: ts => t.text ++ ts.flatMap fun u => b ++ u.text
theorem joinT_one (b : Lx.Bytes) (ts : List Lx.Tok) (t : Lx.Tok) : joinT b (ts ++ [t]) = (if ts = [] then [] else joinT b ts ++ b) ++ t.text := by
  cases ts with
  | nil => simp [joinT]
  | cons u ts => simp [joinT]
theorem joinT_take {b : Lx.Bytes} {ts : List Lx.Tok} {i : Nat} (hi : i < ts.length) : joinT b (ts.take (i + 1)) = (if 0 < i then joinT b (ts.take i) ++ b else []) ++ ts[i].text := by
  rw [List.take_succ_eq_append_getElem hi, joinT_one]
  by_cases h : 0 < i
  · rw [if_pos h, if_neg (by intro e; have := congrArg List.length e; rw [List.length_take, List.length_nil] at this; omega)]
  · obtain rfl : i = 0 := by omega
    simp
theorem flatMap_len {b : Lx.Bytes} {M : Nat} (ts : List Lx.Tok) (h : ∀ t ∈ ts, t.text.length ≤ M) : (ts.flatMap fun u => b ++ u.text).length ≤ ts.length * (b.length + M) := by
  induction ts with
  | nil => simp
  | cons t ts ih =>
    have h1 := ih (fun t ht => h t (List.mem_cons_of_mem _ ht))
    have h2 := h t List.mem_cons_self
    simp only [List.flatMap_cons, List.length_append, List.length_cons, Nat.add_mul]
    omega
theorem joinT_len {b : Lx.Bytes} {M : Nat} (ts : List Lx.Tok) (h : ∀ t ∈ ts, t.text.length ≤ M) : (joinT b ts).length ≤ ts.length * (b.length + M) := by
  cases ts with
  | nil => simp [joinT]
  | cons t ts =>
    have h1 := flatMap_len (b := b) ts (fun t ht => h t (List.mem_cons_of_mem _ ht))
    have h2 := h t List.mem_cons_self
    simp only [joinT, List.length_append, List.length_cons, Nat.add_mul]
    omega
theorem bytes_eq {x y : ByteArray} (h : x.data.toList = y.data.toList) : x = y := ByteArray.ext (Array.toList_inj.1 h)
theorem app_list (x y : ByteArray) : (x ++ y).data.toList = x.data.toList ++ y.data.toList := by simp [ByteArray.data_append]

theorem joined_any {v : Value} {ts : List Lx.Tok} {b : ByteArray} {w : World} (h : Row w v ts.length 5 (toksCells ts)) (hb : b.size ≤ 1000) (hn : ts.length ≤ 1000) (hM : ∀ t ∈ ts, t.text.length ≤ 1000) :
    Calls Try.prog 9 #[v, .string b] w fun e w' => e = .returned (.string ⟨(joinT b.data.toList ts).toArray⟩) ∧ w = w' := by
  rcases tokRow_of h with ⟨rfl, rfl⟩ | ⟨g, off, cap, rfl, hr⟩
  · go_enter Try.func9, Try.ntmps9
    go_wp2_with fail
    go_loop [5, 6] (fun u v => u = .string ⟨#[]⟩ ∧ v = .int .i64 0) (fun _ _ => 0)
    case atStart => exact ⟨rfl, rfl⟩
    case round =>
      obtain ⟨rfl, rfl⟩ := hrel
      go_wp2_with fail
      go_ret
      exact ⟨rfl, rfl⟩
  · have hr' := hid hr
    have hM' := hid hM
    clear h hr hM
    go_enter Try.func9, Try.ntmps9
    go_wp2_with fail
    go_loop [5, 6] (fun u v => ∃ i : Nat, v = .int .i64 i ∧ i ≤ ts.length ∧ u = .string ⟨(joinT b.data.toList (ts.take i)).toArray⟩) (fun _ v => ts.length - (intOf v).toNat)
    case atStart => exact ⟨0, rfl, Nat.zero_le _, rfl⟩
    case round =>
      obtain ⟨i, rfl, hle, rfl⟩ := hrel
      by_cases hlt : i < ts.length
      · have hacc := joinT_len (b := b.data.toList) (ts.take i) (fun t ht => hM'.out t (List.mem_of_mem_take ht))
        rw [List.length_take, list_len] at hacc
        have hacc2 : (joinT b.data.toList (ts.take i)).length ≤ 2000000 := by
          refine Nat.le_trans hacc ?_
          exact Nat.le_trans (Nat.mul_le_mul (show min i ts.length ≤ 1000 by omega) (show b.size + 1000 ≤ 2000 by omega)) (by omega)
        have htl := hM'.out _ (List.getElem_mem hlt)
        have hcell := hr'.out.cell i hlt 1 (.string ⟨ts[i].text.toArray⟩) rfl
        have hgo := hid (joinT_take (b := b.data.toList) hlt)
        have hsz : (ByteArray.mk (joinT b.data.toList (ts.take i)).toArray).size ≤ 2000000 := by simpa [ByteArray.size] using hacc2
        have hsz2 : (ByteArray.mk ts[i].text.toArray).size ≤ 1000 := by simpa [ByteArray.size] using htl
        have hju : (ByteArray.mk (joinT b.data.toList (ts.take i)).toArray).data.toList = joinT b.data.toList (ts.take i) := rfl
        have hju' := hid hju
        generalize ByteArray.mk (joinT b.data.toList (ts.take i)).toArray = acc at *
        generalize htx : ByteArray.mk ts[i].text.toArray = tx at *
        have htx' : Hid (tx.data.toList = ts[i].text) := hid (by rw [← htx])
        clear htx hacc hacc2 htl hju
        by_cases h0 : 0 < i
        · have hfin := hid (show acc ++ b ++ tx = ⟨(joinT b.data.toList (ts.take (i + 1))).toArray⟩ from bytes_eq (by rw [hgo.out, if_pos h0, app_list, app_list, hju'.out, htx'.out]))
          go_wp2_with fail
          go_round
          case rel => exact ⟨i + 1, by go_num, by omega, by rw [hfin.out]⟩
          case measure => simp [intOf]; omega
        · have he : acc.data.toList = [] := by rw [hju'.out, show i = 0 by omega]; rfl
          have hfin := hid (show acc ++ tx = ⟨(joinT b.data.toList (ts.take (i + 1))).toArray⟩ from bytes_eq (by rw [hgo.out, if_neg h0, app_list, he, htx'.out]))
          clear he
          have h0' : decide ((0 : Int) < i) = false := decide_eq_false (by omega)
          go_wp2_with fail
          go_round
          case rel => exact ⟨i + 1, by go_num, by omega, by rw [hfin.out]⟩
          case measure => simp [intOf]; omega
      · obtain rfl : i = ts.length := by omega
        have hf := hid (show ts.take ts.length = ts from List.take_of_length_le (Nat.le_refl _))
        go_wp2_with fail
        go_ret
        exact ⟨ret_str (by simp), rfl⟩

end Go.Proofs.Ytoegepgdfnokdaa
