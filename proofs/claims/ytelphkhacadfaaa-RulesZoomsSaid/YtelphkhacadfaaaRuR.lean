/- The walk of the laws' known: what must come of fixed calls. -/
import Derived.Test.YtelphkhacadfaaaRuQ
import Derived.Test.YtelphkhacadfaaaRuD
namespace Go.Proofs.Ytelphkhacadfaaa
open Go.RowKit Go.Sort Go.Maps

def kRule : Ru.Rule := ⟨4, 8, 1, 4, 255, [⟨0, 0, 65535, 65535⟩], 12⟩
def kText : ByteArray := { data := ([114, 111, 108, 101, 32, 110, 117, 114, 115, 101, 32, 61, 32, 51, 59, 32, 97, 108, 108, 111, 119, 32, 114, 111, 108, 101, 32, 110, 117, 114, 115, 101, 32, 116].append [105, 101, 114, 32, 49, 46, 46, 52, 32, 108, 97, 98, 101, 108, 32, 97, 110, 121, 32, 105, 110, 32, 97, 108, 108, 32, 122, 111, 111, 109, 32, 49, 50, 59]).toArray }
def kDecls : List Po.Decl := match Po.parse kText.data.toList with | .ok ds => ds | .error _ => []
theorem kParse : Po.parse kText.data.toList = .ok kDecls := by
  have h : (match Po.parse kText.data.toList with | .ok _ => true | .error _ => false) = true := by decide +kernel
  unfold kDecls
  cases hp : Po.parse kText.data.toList with
  | ok ds => rfl
  | error f => rw [hp] at h; cases h
theorem kCheck : Ru.checkV kDecls = .ok [kRule] := by kernel_rfl
theorem kZoom1 : Ru.zoomV [kRule] 3 2 7 9 0 = 12 := by kernel_rfl
theorem kZoom2 : Ru.zoomV [kRule] 3 5 7 0 0 = 0 := by kernel_rfl

set_option maxRecDepth 100000 in
set_option maxHeartbeats 4000000 in
theorem known_any (w : World) : Calls Try.prog 7 #[] w fun e w' => e = .returned (.bool true) ∧ Below w.heap.size w w' := by
  have hr := read_any kText w (by decide)
  unfold ReadPost at hr
  rw [kParse] at hr
  simp only at hr
  unfold CheckPost at hr
  rw [kCheck] at hr
  simp only at hr
  have hr' := hid hr
  clear hr
  go_enter Try.func7, Try.ntmps7
  go_wp2_with fail
  refine hr'.out.mono ?_
  rintro e w1 ⟨⟨v, rfl, hrs, _⟩, hb1⟩
  have hz := balloc w1 (.cells #[.int .i64 0, .int .i64 0, .int .i64 0] 29)
  have R1 := hid (hrs _ (Above.below hz))
  have Q1 := hid (bthen hb1 hz)
  rcases R1.out with ⟨_, h0⟩ | ⟨g, off, cap, rfl, hg⟩
  · cases h0
  obtain ⟨x, hat, hrow, _⟩ := hg.get 0 (by decide)
  have q1 : (w1.alloc (.cells #[.int .i64 0, .int .i64 0, .int .i64 0] 29)).cell? ⟨g, off + 1, none⟩ = some (.int .i64 8) := hat 1 _ rfl
  have q4 : (w1.alloc (.cells #[.int .i64 0, .int .i64 0, .int .i64 0] 29)).cell? ⟨g, off + 4, none⟩ = some (.int .i64 255) := hat 4 _ rfl
  clear hat hrow hg hz hb1 hrs
  go_wp2_with fail
  refine (zoom_any 3 2 7 9 0 R1.out (by decide)).mono ?_
  rw [kZoom1]
  rintro e w3 ⟨rfl, hb3⟩
  have R3 := hid (R1.out.ext hb3)
  have Q3 := hid (bthen Q1.out hb3)
  clear hb3 q1 q4
  go_wp2_with fail
  refine (zoom_any 3 5 7 0 0 R3.out (by decide)).mono ?_
  rw [kZoom2]
  rintro e w4 ⟨rfl, hb4⟩
  have Q4 := hid (bthen Q3.out hb4)
  clear hb4
  go_wp2_with fail
  go_ret
  exact ⟨rfl, Q4.out⟩

end Go.Proofs.Ytelphkhacadfaaa
