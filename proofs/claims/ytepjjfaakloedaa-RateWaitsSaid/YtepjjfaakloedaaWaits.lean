/- The law RateWaits: its plain part and its walk. -/
import Derived.Test.YtepjjfaakloedaaSmall
namespace Go.Proofs.Ytepjjfaakloedaa
open Go.RowKit

theorem waits_plain {m a p b now M A : Int} (c1 : 1 ≤ p) (c2 : p ≤ 1000000) (c3 : 1 ≤ b) (c4 : b ≤ 1000000) (c5 : 0 ≤ now) (c6 : now ≤ 70368744177664) (c7 : a ≤ now) (hM : aMilli m a p b now = M) (hA : aAt a now = A)
    (hl : now + (3600000 + p - 1) / p ≤ 70368744177664) : aOk M A p b (now + (3600000 + p - 1) / p) = true := by
  have hp : lim p = p := by unfold lim; omega
  have hb : lim b = b := by unfold lim; omega
  have hA2 : A = now := by rw [← hA]; unfold aAt mom; omega
  have hlev := lev_bd m a p b now c1 c3
  have hM2 : 0 ≤ M := by
    rw [← hM]; unfold aMilli aOk; rw [hp, hb]
    split <;> simp_all <;> omega
  unfold aOk
  rw [hp, hb, lev_eq _ _ _ _ _ c1, hA2]
  have hw0 : 0 ≤ (3600000 + p - 1) / p := Int.ediv_nonneg (by omega) (by omega)
  have hw : 3600000 ≤ p * ((3600000 + p - 1) / p) := by
    have h1 := Int.mul_ediv_add_emod (3600000 + p - 1) p
    have h2 := Int.emod_lt_of_pos (3600000 + p - 1) (show 0 < p by omega)
    omega
  have hpass : passed (now + (3600000 + p - 1) / p) now = (3600000 + p - 1) / p := by
    unfold passed mom; omega
  have hu := units_bd M b c3
  rw [hpass]
  simp only [decide_eq_true_eq]
  omega

theorem waits_out (milli at_ p b now : Int) (w : World) (h : ¬ (1 ≤ p ∧ p ≤ 1000000 ∧ 1 ≤ b ∧ b ≤ 1000000 ∧ 0 ≤ now ∧ now ≤ 70368744177664 ∧ at_ ≤ now)) :
    Calls Try.prog 4 #[.agg #[.int .i64 milli, .int .i64 at_], .int .i64 p, .int .i64 b, .int .i64 now] w fun e w' => e = .returned (.bool true) ∧ Below w.heap.size w w' := by
  rcases (show p < 1 ∨ (1 ≤ p ∧ 1000000 < p) ∨ (1 ≤ p ∧ p ≤ 1000000 ∧ b < 1) ∨ (1 ≤ p ∧ p ≤ 1000000 ∧ 1 ≤ b ∧ 1000000 < b) ∨ (1 ≤ p ∧ p ≤ 1000000 ∧ 1 ≤ b ∧ b ≤ 1000000 ∧ now < 0) ∨
    (1 ≤ p ∧ p ≤ 1000000 ∧ 1 ≤ b ∧ b ≤ 1000000 ∧ 0 ≤ now ∧ 70368744177664 < now) ∨ (1 ≤ p ∧ p ≤ 1000000 ∧ 1 ≤ b ∧ b ≤ 1000000 ∧ 0 ≤ now ∧ now ≤ 70368744177664 ∧ now < at_) by omega) with
    c1 | ⟨c1, c2⟩ | ⟨c1, c2, c3⟩ | ⟨c1, c2, c3, c4⟩ | ⟨c1, c2, c3, c4, c5⟩ | ⟨c1, c2, c3, c4, c5, c6⟩ | ⟨c1, c2, c3, c4, c5, c6, c7⟩
  all_goals
    clear h
    go_enter Try.func4, Try.ntmps4
    go_wp2_with fail
    refine (small_any _).mono ?_
    rintro e w1 ⟨rfl, b1⟩
    obtain ⟨k0, k1, f0, f1, hz⟩ := cells2 b1
    go_wp2
    go_ret
    exact ⟨rfl, (((Below.refl _ _).alloc (Nat.le_refl _) _).trans (b1.mono (by simp)))⟩

theorem waits_main (milli at_ p b now : Int) (w : World) (c1 : 1 ≤ p) (c2 : p ≤ 1000000) (c3 : 1 ≤ b) (c4 : b ≤ 1000000) (c5 : 0 ≤ now) (c6 : now ≤ 70368744177664) (c7 : at_ ≤ now) :
    Calls Try.prog 4 #[.agg #[.int .i64 milli, .int .i64 at_], .int .i64 p, .int .i64 b, .int .i64 now] w fun e w' => e = .returned (.bool true) ∧ Below w.heap.size w w' := by
  have q0 : 0 ≤ (3600000 + p - 1) / p := Int.ediv_nonneg (by omega) (by omega)
  have q1 : (3600000 + p - 1) / p ≤ 3600000 + p - 1 := Int.ediv_le_self _ (by omega)
  obtain ⟨M, hM⟩ : ∃ M, aMilli milli at_ p b now = M := ⟨_, rfl⟩
  obtain ⟨A, hA⟩ : ∃ A, aAt at_ now = A := ⟨_, rfl⟩
  obtain ⟨O, hO⟩ : ∃ O, aOk milli at_ p b now = O := ⟨_, rfl⟩
  have P := fun hl => waits_plain c1 c2 c3 c4 c5 c6 c7 hM hA hl
  have HP := Lib.hid P
  clear P
  have HC := Lib.hid (fun w => allow_at w c1 c3 hM hA hO)
  clear hM hA hO
  by_cases hl : now + (3600000 + p - 1) / p ≤ 70368744177664
  · go_enter Try.func4, Try.ntmps4
    go_wp2_with fail
    refine (small_any _).mono ?_
    rintro e w1 ⟨rfl, b1⟩
    obtain ⟨k0, k1, f0, f1, hz⟩ := cells2 b1
    go_wp2_with fail
    refine (HC.out _).mono ?_
    rintro e w2 ⟨rfl, b2⟩
    go_wp2_with fail
    refine (allow_at _ c1 c3 rfl rfl (HP.out hl)).mono ?_
    rintro e w3 ⟨rfl, b3⟩
    go_wp2
    go_ret
    refine ⟨rfl, ?_⟩
    have d1 : Below w.heap.size w w1 := (((Below.refl _ _).alloc (Nat.le_refl _) _).trans (b1.mono (by simp)))
    have d2 : Below w.heap.size w w2 := d1.trans (b2.mono d1.size)
    have d3 : Below w.heap.size w w3 := (d2.alloc d2.size _).trans (b3.mono (by have := d2.size; simp; omega))
    exact d3.alloc d3.size _
  · go_enter Try.func4, Try.ntmps4
    go_wp2_with fail
    refine (small_any _).mono ?_
    rintro e w1 ⟨rfl, b1⟩
    obtain ⟨k0, k1, f0, f1, hz⟩ := cells2 b1
    go_wp2_with fail
    refine (HC.out _).mono ?_
    rintro e w2 ⟨rfl, b2⟩
    go_wp2
    go_ret
    refine ⟨rfl, ?_⟩
    have d1 : Below w.heap.size w w1 := (((Below.refl _ _).alloc (Nat.le_refl _) _).trans (b1.mono (by simp)))
    have d2 : Below w.heap.size w w2 := d1.trans (b2.mono d1.size)
    exact d2.alloc d2.size _

theorem waits_any (milli at_ p b now : Int) (w : World) :
    Calls Try.prog 4 #[.agg #[.int .i64 milli, .int .i64 at_], .int .i64 p, .int .i64 b, .int .i64 now] w fun e w' => e = .returned (.bool true) ∧ Below w.heap.size w w' := by
  by_cases h : 1 ≤ p ∧ p ≤ 1000000 ∧ 1 ≤ b ∧ b ≤ 1000000 ∧ 0 ≤ now ∧ now ≤ 70368744177664 ∧ at_ ≤ now
  · obtain ⟨c1, c2, c3, c4, c5, c6, c7⟩ := h
    exact waits_main _ _ _ _ _ _ c1 c2 c3 c4 c5 c6 c7
  · exact waits_out _ _ _ _ _ _ h

end Go.Proofs.Ytepjjfaakloedaa
