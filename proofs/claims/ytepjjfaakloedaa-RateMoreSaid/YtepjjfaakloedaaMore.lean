/- The law RateMore: its plain part and its walk. -/
import Derived.Test.YtepjjfaakloedaaSmall
namespace Go.Proofs.Ytepjjfaakloedaa
open Go.RowKit

theorem lev_mono {m m' a p p' b n n' : Int} (hp : 1 ≤ p) (hb : 1 ≤ b) (hm : m ≤ m') (hpp : p ≤ p') (hn : n ≤ n') : lev m a p b n ≤ lev m' a p' b n' := by
  rw [lev_eq _ _ _ _ _ hp, lev_eq _ _ _ _ _ (by omega)]
  have h1 : units m b ≤ units m' b := by unfold units; omega
  have h0 := passed_bd n a
  have h2 : passed n a ≤ passed n' a := by
    have : mom n ≤ mom n' := by unfold mom; omega
    unfold passed; omega
  have h3 : p * passed n a ≤ p' * passed n' a := Int.mul_le_mul hpp h2 h0.1 (by omega)
  omega

theorem left_mono {m m' a p p' b n n' : Int} (hp : 1 ≤ p) (hb : 1 ≤ b) (hm : m ≤ m') (hpp : p ≤ p') (hn : n ≤ n') : left m a p b n ≤ left m' a p' b n' := by
  unfold left
  rw [if_neg (by omega), if_neg (by omega)]
  have := lev_mono (a := a) (n := n) (lim_bd p hp).1 (lim_bd b hb).1 hm (show lim p ≤ lim p' by unfold lim; omega) hn
  omega

theorem left_nonneg {m a p b n : Int} (hp : 1 ≤ p) (hb : 1 ≤ b) : 0 ≤ left m a p b n := by
  unfold left
  rw [if_neg (by omega)]
  have := (lev_bd m a (lim p) (lim b) n (lim_bd p hp).1 (lim_bd b hb).1).1
  omega

theorem more_main (milli at_ more p faster b now later : Int) (w : World) (c1 : 1 ≤ p) (c2 : p ≤ 1000000) (c3 : 1 ≤ b) (c4 : b ≤ 1000000) (c5 : milli ≤ more) (c6 : p ≤ faster) (c7 : now ≤ later) :
    Calls Try.prog 6 #[.agg #[.int .i64 milli, .int .i64 at_], .int .i64 more, .int .i64 p, .int .i64 faster, .int .i64 b, .int .i64 now, .int .i64 later] w fun e w' => e = .returned (.bool true) ∧ Below w.heap.size w w' := by
  have m1 : left milli at_ p b now ≤ left more at_ p b now := left_mono c1 c3 c5 (Int.le_refl _) (Int.le_refl _)
  have m2 : left milli at_ p b now ≤ left milli at_ faster b now := left_mono c1 c3 (Int.le_refl _) c6 (Int.le_refl _)
  have m3 : left milli at_ p b now ≤ left milli at_ p b later := left_mono c1 c3 (Int.le_refl _) (Int.le_refl _) c7
  have m4 : 0 ≤ left milli at_ p b now := left_nonneg c1 c3
  go_enter Try.func6, Try.ntmps6
  go_wp2_with fail
  refine (small_any _).mono ?_
  rintro e w1 ⟨rfl, b1⟩
  obtain ⟨k0, k1, f0, f1, hz⟩ := cells2 b1
  go_wp2_with fail
  refine (left_any _ _ _ _ _ _).mono ?_
  rintro e w2 ⟨rfl, b2⟩
  obtain ⟨hc2, hf2⟩ := bcell b2
  have j0 : w2.cell? ⟨w.heap.size, 0, none⟩ = some (.int .i64 milli) := by rw [hc2 _ _ hz]; exact k0
  have j1 : w2.cell? ⟨w.heap.size, 1, none⟩ = some (.int .i64 at_) := by rw [hc2 _ _ hz]; exact k1
  have hz2 : w.heap.size < w2.heap.size := by have := b2.size; omega
  clear hc2 hf2
  go_wp2_with fail
  refine (left_any _ _ _ _ _ _).mono ?_
  rintro e w3 ⟨rfl, b3⟩
  obtain ⟨hc3, hf3⟩ := bcell b3
  have l0 : w3.cell? ⟨w.heap.size, 0, none⟩ = some (.int .i64 milli) := by rw [hc3 _ _ (by simp; omega)]; go_simp
  have l1 : w3.cell? ⟨w.heap.size, 1, none⟩ = some (.int .i64 at_) := by rw [hc3 _ _ (by simp; omega)]; go_simp
  have hz3 : w2.heap.size < w3.heap.size := by have := b3.size; simp at this; omega
  clear hc3 hf3
  go_wp2_with fail
  refine (left_any _ _ _ _ _ _).mono ?_
  rintro e w4 ⟨rfl, b4⟩
  obtain ⟨hc4, hf4⟩ := bcell b4
  have n0 : w4.cell? ⟨w.heap.size, 0, none⟩ = some (.int .i64 milli) := by rw [hc4 _ _ (by omega)]; exact l0
  have n1 : w4.cell? ⟨w.heap.size, 1, none⟩ = some (.int .i64 at_) := by rw [hc4 _ _ (by omega)]; exact l1
  have hz4 : w.heap.size < w4.heap.size := by have := b4.size; omega
  clear hc4 hf4
  go_wp2_with fail
  refine (left_any _ _ _ _ _ _).mono ?_
  rintro e w5 ⟨rfl, b5⟩
  go_wp2
  go_ret
  refine ⟨rfl, ?_⟩
  have d1 : Below w.heap.size w w1 := (((Below.refl _ _).alloc (Nat.le_refl _) _).trans (b1.mono (by simp)))
  have d2 : Below w.heap.size w w2 := d1.trans (b2.mono d1.size)
  have d3 : Below w.heap.size w w3 := (d2.alloc d2.size _).trans (b3.mono (by have := d2.size; simp; omega))
  have d4 : Below w.heap.size w w4 := d3.trans (b4.mono d3.size)
  exact d4.trans (b5.mono d4.size)

theorem more_out (milli at_ more p faster b now later : Int) (w : World) (h : ¬ (1 ≤ p ∧ p ≤ 1000000 ∧ 1 ≤ b ∧ b ≤ 1000000 ∧ milli ≤ more ∧ p ≤ faster ∧ now ≤ later)) :
    Calls Try.prog 6 #[.agg #[.int .i64 milli, .int .i64 at_], .int .i64 more, .int .i64 p, .int .i64 faster, .int .i64 b, .int .i64 now, .int .i64 later] w fun e w' => e = .returned (.bool true) ∧ Below w.heap.size w w' := by
  rcases (show p < 1 ∨ (1 ≤ p ∧ 1000000 < p) ∨ (1 ≤ p ∧ p ≤ 1000000 ∧ b < 1) ∨ (1 ≤ p ∧ p ≤ 1000000 ∧ 1 ≤ b ∧ 1000000 < b) ∨ (1 ≤ p ∧ p ≤ 1000000 ∧ 1 ≤ b ∧ b ≤ 1000000 ∧ more < milli) ∨
    (1 ≤ p ∧ p ≤ 1000000 ∧ 1 ≤ b ∧ b ≤ 1000000 ∧ milli ≤ more ∧ faster < p) ∨ (1 ≤ p ∧ p ≤ 1000000 ∧ 1 ≤ b ∧ b ≤ 1000000 ∧ milli ≤ more ∧ p ≤ faster ∧ later < now) by omega) with
    c1 | ⟨c1, c2⟩ | ⟨c1, c2, c3⟩ | ⟨c1, c2, c3, c4⟩ | ⟨c1, c2, c3, c4, c5⟩ | ⟨c1, c2, c3, c4, c5, c6⟩ | ⟨c1, c2, c3, c4, c5, c6, c7⟩
  all_goals
    clear h
    go_enter Try.func6, Try.ntmps6
    go_wp2_with fail
    refine (small_any _).mono ?_
    rintro e w1 ⟨rfl, b1⟩
    obtain ⟨k0, k1, f0, f1, hz⟩ := cells2 b1
    go_wp2
    go_ret
    exact ⟨rfl, (((Below.refl _ _).alloc (Nat.le_refl _) _).trans (b1.mono (by simp)))⟩

theorem more_any (milli at_ more p faster b now later : Int) (w : World) :
    Calls Try.prog 6 #[.agg #[.int .i64 milli, .int .i64 at_], .int .i64 more, .int .i64 p, .int .i64 faster, .int .i64 b, .int .i64 now, .int .i64 later] w fun e w' => e = .returned (.bool true) ∧ Below w.heap.size w w' := by
  by_cases h : 1 ≤ p ∧ p ≤ 1000000 ∧ 1 ≤ b ∧ b ≤ 1000000 ∧ milli ≤ more ∧ p ≤ faster ∧ now ≤ later
  · obtain ⟨c1, c2, c3, c4, c5, c6, c7⟩ := h
    exact more_main _ _ _ _ _ _ _ _ _ c1 c2 c3 c4 c5 c6 c7
  · exact more_out _ _ _ _ _ _ _ _ _ h

end Go.Proofs.Ytepjjfaakloedaa
