/- What every law of this seat asks first. -/
import Derived.Test.YthnpedkinelemaaSmallCalls
namespace Go.Proofs.Ythnpedkinelemaa
open Go.RowKit Go.Shelf

set_option maxRecDepth 100000 in
set_option maxHeartbeats 400000 in
theorem small_any (w : World) :
    Calls Try.prog 7 #[] w fun e w' => e = .returned (.bool true) ∧ Below w.heap.size w w' := by
  go_enter Try.func7, Try.ntmps7
  go_wp2_with (go_at_call 8; refine (small_lines _).mono ?_)
  rintro e w1 ⟨g, off, cap, rfl, hg, h0, h1, h2, b1⟩
  go_wp2_with (go_at_call 19; refine (Number_007 _).mono ?_)
  rintro e w2 ⟨rfl, rfl⟩
  go_wp2_with (go_at_call 19; refine (Number_neg _).mono ?_)
  rintro e w3 ⟨rfl, rfl⟩
  go_wp2_with (go_at_call 8; refine (small_none _).mono ?_)
  rintro e w4 ⟨x4, cap4, rfl, b4⟩
  go_wp2_with (go_at_call 8; refine (small_lf _).mono ?_)
  rintro e w5 ⟨x5, cap5, rfl, b5⟩
  go_wp2_with (go_at_call 16; refine (small_squeeze _).mono ?_)
  rintro e w6 ⟨rfl, b6⟩
  go_wp2_with (go_at_call 11; refine (small_glob1 _).mono ?_)
  rintro e w7 ⟨rfl, b7⟩
  go_wp2_with (go_at_call 11; refine (small_glob2 _).mono ?_)
  rintro e w8 ⟨rfl, b8⟩
  go_wp2
  go_ret
  refine ⟨rfl, ?_⟩
  have l1 := b1.size
  have l4 := b4.size
  have l5 := b5.size
  have l6 := b6.size
  have l7 := b7.size
  exact ((((b1.trans (b4.mono l1)).trans (b5.mono (by omega))).trans (b6.mono (by omega))).trans (b7.mono (by omega))).trans (b8.mono (by omega))
end Go.Proofs.Ythnpedkinelemaa
