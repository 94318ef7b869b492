/- The walk of rules.Read. -/
import Derived.Test.YtelphkhacadfaaaRuP
import Derived.Test.YtelphkhacadfaaaPolH
namespace Go.Proofs.Ytelphkhacadfaaa
open Go.RowKit Go.Sort Go.Maps

def ReadPost (B : Nat) (L : Lx.Bytes) (e : Ending) (w' : World) : Prop :=
  match Po.parse L with
  | .ok ds => CheckPost B ds e w'
  | .error (er, l, c) => e = .returned (.tuple #[.slice none 0 0, .agg #[.int .i64 er, .int .i64 l, .int .i64 c]]) ∧ er ≠ 0
theorem DSmall.of {d : Po.Decl} (h : Po.Sm d) : DSmall d :=
  ⟨by have := h.name; omega, by have := h.role; omega, by have := h.label; omega, by have := h.place; omega, by have := h.boxes; omega⟩

set_option maxRecDepth 100000 in
set_option maxHeartbeats 4000000 in
theorem read_any (s : ByteArray) (w : World) (hs : s.size ≤ 140737488355328) :
    Calls Try.prog 21 #[.string s] w fun e w' => ReadPost w.heap.size s.data.toList e w' ∧ Below w.heap.size w w' := by
  have hn1 := Nat.le_refl w.heap.size
  have hpa := parse_any s (w.alloc (.cells #[.int .i64 0, .int .i64 0, .int .i64 0] 29)) hs
  unfold ParsePost at hpa
  have hz1 := balloc w (.cells #[.int .i64 0, .int .i64 0, .int .i64 0] 29)
  have Q0 := hid hz1
  have B0 := hid (Blk.new w #[.int .i64 0, .int .i64 0, .int .i64 0] 29)
  clear hz1
  cases hp : Po.parse s.data.toList with
  | error f =>
    obtain ⟨er, l, c⟩ := f
    rw [hp] at hpa
    have hpa' := hid hpa
    have hp' := hid hp
    clear hpa hp
    go_enter Try.func21, Try.ntmps21
    go_wp2_with fail
    refine hpa'.out.mono ?_
    rintro e w1 ⟨⟨rfl, her⟩, hb1⟩
    have hsz := hb1.size
    simp only [World.size_alloc] at hsz
    have Q1 := hid (bthen Q0.out hb1)
    have B1 := hid (B0.out.ext hb1)
    have hne : w.heap.size ≠ w1.heap.size := by omega
    have hne' : w1.heap.size ≠ w.heap.size := by omega
    have hn2 : w.heap.size ≤ w1.heap.size := by omega
    have C1 := hid (Blk.new w1 #[.int .i64 er, .int .i64 l, .int .i64 c] 29)
    have B2 := hid (B1.out.ext (balloc w1 (.cells #[.int .i64 er, .int .i64 l, .int .i64 c] 29)))
    have Q2 := hid (bthen Q1.out (balloc w1 (.cells #[.int .i64 er, .int .i64 l, .int .i64 c] 29)))
    obtain ⟨d0, d1, d2, df, dz⟩ := B2.out.three
    have h0 : ((er : Int) != 0) = true := by rw [bne_iff_ne]; omega
    go_wp2_with fail
    go_region_held3 (fun w' => w'.cell? ⟨w1.heap.size, 0, none⟩ = some (.int .i64 er) ∧ w'.cell? ⟨w1.heap.size, 1, none⟩ = some (.int .i64 l) ∧ w'.cell? ⟨w1.heap.size, 1 + 1, none⟩ = some (.int .i64 c)) (go_keep) (first | fail)
    go_wp2_with fail
    refine bodyPost_ret (v := .tuple #[.slice none 0 0, .agg #[.int .i64 er, .int .i64 l, .int .i64 c]]) (by simp [results, Try.results21, go_sem, d0, d1, d2]) rfl ⟨?_, (by simp only [below_setNew_iff hn1, below_drew_iff]; exact Q2.out)⟩
    unfold ReadPost
    rw [hp'.out]
    exact ⟨rfl, her⟩
  | ok ds =>
    rw [hp] at hpa
    have hpa' := hid hpa
    have hp' := hid hp
    obtain ⟨hlen, hsm⟩ := Po.parse_small hp
    have hsm' := hid (fun d hd => DSmall.of (hsm d hd))
    clear hpa hp hsm
    go_enter Try.func21, Try.ntmps21
    go_wp2_with fail
    refine hpa'.out.mono ?_
    rintro e w1 ⟨⟨v, vs, rfl, hds⟩, hb1⟩
    have hsz := hb1.size
    simp only [World.size_alloc] at hsz
    have Q1 := hid (bthen Q0.out hb1)
    have B1 := hid (B0.out.ext hb1)
    have hne : w.heap.size ≠ w1.heap.size := by omega
    have hne' : w1.heap.size ≠ w.heap.size := by omega
    have B2 := hid (B1.out.ext (balloc w1 (.cells #[.int .i64 0, .int .i64 0, .int .i64 0] 29)))
    have Q2 := hid (bthen Q1.out (balloc w1 (.cells #[.int .i64 0, .int .i64 0, .int .i64 0] 29)))
    have D2 := hid (hds.sl.ext (balloc w1 (.cells #[.int .i64 0, .int .i64 0, .int .i64 0] 29)))
    clear hds hb1
    go_wp2_with fail
    have hck := check_any D2.out (by omega) hsm'.out
    unfold CheckPost at hck
    cases hc : Ru.checkV ds with
    | ok rs =>
      rw [hc] at hck
      refine hck.mono ?_
      rintro e w3 ⟨⟨v3, rfl, hr3, hl3⟩, hb3⟩
      have Q3 := hid (bthen Q2.out hb3)
      have B3 := hid (B2.out.ext hb3)
      have R3 := hid hr3
      obtain ⟨d0, d1, d2, df, dz⟩ := B3.out.three
      clear hr3 hb3 hck
      go_wp2_with fail
      refine bodyPost_ret (v := .tuple #[v3, .agg #[.int .i64 0, .int .i64 0, .int .i64 0]]) (by simp [results, Try.results21, go_sem, d0, d1, d2]) rfl ⟨?_, (by simp only [below_setNew_iff hn1]; exact Q3.out)⟩
      unfold ReadPost
      rw [hp'.out]
      simp only
      unfold CheckPost
      rw [hc]
      have ht := ((((Touch.refl w.heap.size w3).setCell 0 (.int .i64 0)).setCell 1 (.int .i64 0)).setCell (1 + 1) (.int .i64 0))
      exact ⟨v3, rfl, fun w'' ha => R3.out w'' (((Above.touch ht (Nat.le_refl _)).trans ha).mono (by rw [World.size_alloc]; omega)), hl3⟩
    | error f =>
      obtain ⟨er, l, c⟩ := f
      rw [hc] at hck
      refine hck.mono ?_
      rintro e w3 ⟨rfl, hb3⟩
      have Q3 := hid (bthen Q2.out hb3)
      have B3 := hid (B2.out.ext hb3)
      obtain ⟨d0, d1, d2, df, dz⟩ := B3.out.three
      clear hb3 hck
      go_wp2_with fail
      refine bodyPost_ret (v := .tuple #[.slice none 0 0, .agg #[.int .i64 er, .int .i64 l, .int .i64 c]]) (by simp [results, Try.results21, go_sem, d0, d1, d2]) rfl ⟨?_, (by simp only [below_setNew_iff hn1]; exact Q3.out)⟩
      unfold ReadPost
      rw [hp'.out]
      simp only
      unfold CheckPost
      rw [hc]

end Go.Proofs.Ytelphkhacadfaaa
