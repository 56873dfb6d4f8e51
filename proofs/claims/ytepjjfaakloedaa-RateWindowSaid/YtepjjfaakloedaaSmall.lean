/- The small examples hold: 'small' returns true. -/
import Derived.Test.YtepjjfaakloedaaCalls
namespace Go.Proofs.Ytepjjfaakloedaa
open Go.RowKit

theorem allow_at {milli at_ p b now M A : Int} {O : Bool} (w : World) (hp : 1 ≤ p) (hb : 1 ≤ b) (hM : aMilli milli at_ p b now = M) (hA : aAt at_ now = A) (hO : aOk milli at_ p b now = O) :
    Calls Try.prog 9 #[.agg #[.int .i64 milli, .int .i64 at_], .int .i64 p, .int .i64 b, .int .i64 now] w fun e w' => e = .returned (.tuple #[.agg #[.int .i64 M, .int .i64 A], .bool O]) ∧ Below w.heap.size w w' := by
  subst hM hA hO; exact allow_yes _ _ _ _ _ _ hp hb
theorem left_at {milli at_ p b now M : Int} (w : World) (hM : left milli at_ p b now = M) :
    Calls Try.prog 10 #[.agg #[.int .i64 milli, .int .i64 at_], .int .i64 p, .int .i64 b, .int .i64 now] w fun e w' => e = .returned (.int .i64 M) ∧ Below w.heap.size w w' := by
  subst hM; exact left_any _ _ _ _ _ _
theorem full_at {b now M A : Int} (w : World) (hM : max 0 (min b 1000000) * 3600000 = M) (hA : mom now = A) :
    Calls Try.prog 11 #[.int .i64 b, .int .i64 now] w fun e w' => e = .returned (.agg #[.int .i64 M, .int .i64 A]) ∧ Below w.heap.size w w' := by
  subst hM hA; exact full_any _ _ _

theorem small_any (w : World) :
    Calls Try.prog 7 #[] w fun e w' => e = .returned (.bool true) ∧ Below w.heap.size w w' := by
  go_enter Try.func7, Try.ntmps7
  go_wp2_with fail
  refine (full_at (M := 7200000) (A := 0) _ (by decide) (by decide)).mono ?_
  rintro e w1 ⟨rfl, b1⟩
  go_wp2_with fail
  refine (allow_at (M := 3600000) (A := 0) (O := true) _ (by decide) (by decide) (by decide) (by decide) (by decide)).mono ?_
  rintro e w2 ⟨rfl, b2⟩
  go_wp2_with fail
  refine (allow_at (M := 0) (A := 0) (O := true) _ (by decide) (by decide) (by decide) (by decide) (by decide)).mono ?_
  rintro e w3 ⟨rfl, b3⟩
  go_wp2_with fail
  refine (allow_at (M := 0) (A := 0) (O := false) _ (by decide) (by decide) (by decide) (by decide) (by decide)).mono ?_
  rintro e w4 ⟨rfl, b4⟩
  go_wp2_with fail
  refine (allow_at (M := 3599999) (A := 3599999) (O := false) _ (by decide) (by decide) (by decide) (by decide) (by decide)).mono ?_
  rintro e w5 ⟨rfl, b5⟩
  obtain ⟨k0, k1, _, _, hz⟩ := cells2 b5
  go_wp2_with fail
  refine (allow_at (M := 0) (A := 3600000) (O := true) _ (by decide) (by decide) (by decide) (by decide) (by decide)).mono ?_
  rintro e w6 ⟨rfl, b6⟩
  go_wp2_with fail
  refine (full_at (M := 10800000) (A := 5) _ (by decide) (by decide)).mono ?_
  rintro e w7 ⟨rfl, b7⟩
  go_wp2_with fail
  refine (left_at (M := 3) _ (by decide)).mono ?_
  rintro e w8 ⟨rfl, b8⟩
  go_wp2_with fail
  refine (left_at (M := -1) _ (by decide)).mono ?_
  rintro e w9 ⟨rfl, b9⟩
  go_wp2
  go_ret
  refine ⟨rfl, ?_⟩
  have c2 : Below w.heap.size w w2 := b1.trans (b2.mono b1.size)
  have c3 : Below w.heap.size w w3 := (c2.alloc c2.size _).trans (b3.mono (by have := c2.size; simp; omega))
  have c4 : Below w.heap.size w w4 := (c3.alloc c3.size _).trans (b4.mono (by have := c3.size; simp; omega))
  have c5 : Below w.heap.size w w5 := (c4.alloc c4.size _).trans (b5.mono (by have := c4.size; simp; omega))
  have c6 : Below w.heap.size w w6 := (c5.alloc c5.size _).trans (b6.mono (by have := c5.size; simp; omega))
  have c7 : Below w.heap.size w w7 := (c6.alloc c6.size _).trans (b7.mono (by have := c6.size; simp; omega))
  have c8 : Below w.heap.size w w8 := c7.trans (b8.mono c7.size)
  exact c8.trans (b9.mono c8.size)

end Go.Proofs.Ytepjjfaakloedaa
