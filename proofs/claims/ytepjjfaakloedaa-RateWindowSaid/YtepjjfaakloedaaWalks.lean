/- The contracts of package rate's functions, each walked once. -/
import Derived.Test.YtepjjfaakloedaaChecked
import Derived.Test.YtepjjfaakloedaaPlain
import Derived.WalkKit
import Derived.WalkSpells
import Derived.WalkLawsBesides
import Derived.Outline
import Derived.Lib.Hide
import Derived.BigQuiet
import Derived.RowKit3
namespace Go.Proofs.Ytepjjfaakloedaa
open Go.RowKit

theorem bcell {W w1 : World} (hb : Below W.heap.size W w1) : (∀ b o, b < W.heap.size → w1.cell? ⟨b, o, none⟩ = W.cell? ⟨b, o, none⟩) ∧ (∀ b o, b < W.heap.size → w1.frozen? ⟨b, o, none⟩ = W.frozen? ⟨b, o, none⟩) :=
  ⟨fun b o h => hb.cell (p := ⟨b, o, none⟩) h, fun b o h => hb.frozen (p := ⟨b, o, none⟩) h⟩

theorem below_drewN {B : Nat} {a w : World} (h : Below B a w) (n : Nat) : Below B a (w.drewN n) := ⟨h.os, h.tape, h.output, h.size, h.block⟩
theorem ret_int {k : IntKind} {a b : Int} (h : a = b) : Ending.returned (.int k a) = .returned (.int k b) := by rw [h]
theorem ret_agg2 {k : IntKind} {a b c d : Int} (h : a = c) (h' : b = d) : Ending.returned (.agg #[.int k a, .int k b]) = .returned (.agg #[.int k c, .int k d]) := by rw [h, h']

theorem moment_any (t : Int) (w : World) :
    Calls Try.prog 14 #[.int .i64 t] w fun e w' => e = .returned (.int .i64 (mom t)) ∧ w = w' := by
  go_enter Try.func14, Try.ntmps14
  go_wp2
  all_goals
    go_ret
    exact ⟨ret_int (by simp only [mom]; split at * <;> omega), rfl⟩

/-- Behind a call that only makes memory: the two cells of the block that lay topmost. -/
theorem cells2 {w w1 : World} {a b : Value} {T : TypeId} (hb : Below (w.alloc (.cells #[a, b] T)).heap.size (w.alloc (.cells #[a, b] T)) w1) :
    w1.cell? ⟨w.heap.size, 0, none⟩ = some a ∧ w1.cell? ⟨w.heap.size, 1, none⟩ = some b ∧ w1.frozen? ⟨w.heap.size, 0, none⟩ = false ∧ w1.frozen? ⟨w.heap.size, 1, none⟩ = false ∧ w.heap.size < w1.heap.size := by
  obtain ⟨hc, hf⟩ := bcell hb
  refine ⟨?_, ?_, ?_, ?_, ?_⟩
  · rw [hc _ _ (by simp)]; simp [go_sem]
  · rw [hc _ _ (by simp)]; simp [go_sem]
  · rw [hf _ _ (by simp)]; simp [go_sem]
  · rw [hf _ _ (by simp)]; simp [go_sem]
  · have := hb.size; simp at this; omega

theorem bounded_any (p b : Int) (w : World) :
    Calls Try.prog 15 #[.int .i64 p, .int .i64 b, .int .i64 1000000] w fun e w' => e = .returned (.agg #[.int .i64 (lim p), .int .i64 (lim b)]) ∧ Below w.heap.size w w' := by
  go_enter Try.func15, Try.ntmps15
  go_wp2
  all_goals
    refine bodyPost_ret (v := .agg #[.int .i64 (lim p), .int .i64 (lim b)]) (by
      simp [results, Try.results15, go_sem, lim]; omega) rfl ⟨rfl, ?_⟩
    exact (Below.refl _ _).alloc (Nat.le_refl _) _

theorem limit_yes (p b : Int) (w : World) (hp : 1 ≤ p) (hb : 1 ≤ b) :
    Calls Try.prog 12 #[.int .i64 p, .int .i64 b] w fun e w' => e = .returned (.tuple #[.agg #[.int .i64 (lim p), .int .i64 (lim b)], .bool true]) ∧ Below w.heap.size w w' := by
  have h1 : 1 ≤ lim p := by unfold lim; omega
  have h2 : 1 ≤ lim b := by unfold lim; omega
  go_enter Try.func12, Try.ntmps12
  go_wp2_with fail
  refine (bounded_any _ _ _).mono ?_
  rintro e w1 ⟨rfl, hb1⟩
  obtain ⟨k0, k1, f0, f1, hz⟩ := cells2 hb1
  go_wp2
  go_region
  go_wp2
  refine bodyPost_ret (v := .tuple #[.agg #[.int .i64 (lim p), .int .i64 (lim b)], .bool true]) (by
      simp [results, Try.results12, go_sem, k0, k1, hz]) rfl ⟨rfl, ?_⟩
  have hb2 : Below w.heap.size w w1 := (((Below.refl _ _).alloc (Nat.le_refl _) _).trans (hb1.mono (by simp)))
  exact ((((hb2.setCell (by simp) _).setCell (by simp) _).alloc (by simp; omega) _).drew)

theorem limit_no (p b : Int) (w : World) (h : p < 1 ∨ b < 1) :
    Calls Try.prog 12 #[.int .i64 p, .int .i64 b] w fun e w' => e = .returned (.tuple #[.agg #[.int .i64 (lim p), .int .i64 (lim b)], .bool false]) ∧ Below w.heap.size w w' := by
  by_cases hp : 1 ≤ p
  · have h1 : 1 ≤ lim p := by unfold lim; omega
    have h2 : lim b < 1 := by unfold lim; omega
    have h3 : decide (1 ≤ lim b) = false := by simpa using h2
    go_enter Try.func12, Try.ntmps12
    go_wp2_with fail
    refine (bounded_any _ _ _).mono ?_
    rintro e w1 ⟨rfl, hb1⟩
    obtain ⟨k0, k1, f0, f1, hz⟩ := cells2 hb1
    go_wp2
    go_region
    go_wp2
    refine bodyPost_ret (v := .tuple #[.agg #[.int .i64 (lim p), .int .i64 (lim b)], .bool false]) (by
        simp [results, Try.results12, go_sem, k0, k1, hz]) rfl ⟨rfl, ?_⟩
    have hb2 : Below w.heap.size w w1 := (((Below.refl _ _).alloc (Nat.le_refl _) _).trans (hb1.mono (by simp)))
    exact ((((hb2.setCell (by simp) _).setCell (by simp) _).alloc (by simp; omega) _).drew)
  · have h1 : lim p < 1 := by unfold lim; omega
    have h3 : decide (1 ≤ lim p) = false := by simpa using h1
    go_enter Try.func12, Try.ntmps12
    go_wp2_with fail
    refine (bounded_any _ _ _).mono ?_
    rintro e w1 ⟨rfl, hb1⟩
    obtain ⟨k0, k1, f0, f1, hz⟩ := cells2 hb1
    go_wp2
    go_region
    go_wp2
    refine bodyPost_ret (v := .tuple #[.agg #[.int .i64 (lim p), .int .i64 (lim b)], .bool false]) (by
        simp [results, Try.results12, go_sem, k0, k1, hz]) rfl ⟨rfl, ?_⟩
    have hb2 : Below w.heap.size w w1 := (((Below.refl _ _).alloc (Nat.le_refl _) _).trans (hb1.mono (by simp)))
    exact ((((hb2.setCell (by simp) _).setCell (by simp) _).alloc (by simp; omega) _).drew)

theorem full_any (bu now : Int) (w : World) :
    Calls Try.prog 11 #[.int .i64 bu, .int .i64 now] w fun e w' => e = .returned (.agg #[.int .i64 (max 0 (min bu 1000000) * 3600000), .int .i64 (mom now)]) ∧ Below w.heap.size w w' := by
  go_enter Try.func11, Try.ntmps11
  go_wp2_with (go_at_call 14; refine (moment_any _ _).mono ?_; rintro e w1 ⟨rfl, rfl⟩)
  all_goals
    refine bodyPost_ret (v := .agg #[.int .i64 (max 0 (min bu 1000000) * 3600000), .int .i64 (mom now)]) (by
        simp [results, Try.results11, go_sem]; omega) rfl ⟨rfl, ?_⟩
    exact (Below.refl _ _).alloc (Nat.le_refl _) _

theorem lev_gt {milli at_ ph bu now u d : Int} (hu : units milli bu = u) (hd : passed now at_ = d) (h : (bu * 3600000 - u) / ph < d) : bu * 3600000 = lev milli at_ ph bu now := by
  unfold lev; rw [hu, hd, if_pos h]
theorem lev_le {milli at_ ph bu now u d E : Int} (hp : 1 ≤ ph) (hb : 1 ≤ bu) (hb2 : bu ≤ 1000000) (hu : units milli bu = u) (hd : passed now at_ = d) (h : d ≤ (bu * 3600000 - u) / ph) (hE : E = wrap64 (u + wrap64 (ph * d))) : E = lev milli at_ ph bu now := by
  have h1 := lev_bd milli at_ ph bu now hp hb
  have h3 : lev milli at_ ph bu now = u + ph * d := by unfold lev; rw [hu, hd, if_neg (by omega)]
  have h2 := units_bd milli bu hb
  have h4 : 0 ≤ ph * d := Int.mul_nonneg (by omega) (by have := (passed_bd now at_).1; omega)
  rw [hE, h3]
  rw [IntWalk.wrap64_in (ph * d) (by omega), IntWalk.wrap64_in _ (by omega)]
theorem lev_zero {milli at_ ph bu now : Int} (hp : 1 ≤ ph) (hb : 1 ≤ bu) (hd : mom now - mom at_ ≤ 0) : lev milli at_ ph bu now = units milli bu := by
  rw [lev_eq _ _ _ _ _ hp]
  have : passed now at_ = 0 := by unfold passed; omega
  have h2 := units_bd milli bu hb
  rw [this]; omega

set_option maxHeartbeats 400000 in
theorem level_any (milli at_ ph bu now : Int) (w : World) (hp : 1 ≤ ph) (hp2 : ph ≤ 1000000) (hb : 1 ≤ bu) (hb2 : bu ≤ 1000000) :
    Calls Try.prog 13 #[.agg #[.int .i64 milli, .int .i64 at_], .agg #[.int .i64 ph, .int .i64 bu], .int .i64 now] w fun e w' => e = .returned (.int .i64 (lev milli at_ ph bu now)) ∧ Below w.heap.size w w' := by
  have hn := mom_bd now
  have ha := mom_bd at_
  by_cases hd : 0 < mom now - mom at_
  · have hD : passed now at_ = mom now - mom at_ := by unfold passed; omega
    have HD := Lib.hid hD
    clear hD
    rcases (show milli ≤ 0 ∨ (0 < milli ∧ milli ≤ bu * 3600000) ∨ bu * 3600000 < milli by omega) with h | ⟨h, h'⟩ | h
    · have hU : units milli bu = 0 := by unfold units; omega
      have HU := Lib.hid hU
      clear hU
      go_enter Try.func13, Try.ntmps13
      go_wp2
      go_quiet ((go_at_call 14; exact Calls.quiet_of_same ((moment_any _ _).mono fun _ _ h => ⟨h.1, h.2.symm⟩)))
      go_wp2
      · go_ret
        exact ⟨ret_int (lev_gt HU.out HD.out (by rw [Int.sub_zero]; assumption)), below_drewN (((Below.refl _ _).alloc (Nat.le_refl _) _).alloc (by simp) _) _⟩
      · go_ret
        exact ⟨ret_int (lev_le hp hb hb2 HU.out HD.out (by rw [Int.sub_zero]; assumption) (by rw [Int.zero_add])), below_drewN (((Below.refl _ _).alloc (Nat.le_refl _) _).alloc (by simp) _) _⟩
    · have hU : units milli bu = milli := by unfold units; omega
      have HU := Lib.hid hU
      clear hU
      go_enter Try.func13, Try.ntmps13
      go_wp2
      go_quiet ((go_at_call 14; exact Calls.quiet_of_same ((moment_any _ _).mono fun _ _ h => ⟨h.1, h.2.symm⟩)))
      go_wp2
      · go_ret
        exact ⟨ret_int (lev_gt HU.out HD.out (by assumption)), below_drewN (((Below.refl _ _).alloc (Nat.le_refl _) _).alloc (by simp) _) _⟩
      · go_ret
        exact ⟨ret_int (lev_le hp hb hb2 HU.out HD.out (by assumption) rfl), below_drewN (((Below.refl _ _).alloc (Nat.le_refl _) _).alloc (by simp) _) _⟩
    · have hU : units milli bu = bu * 3600000 := by unfold units; omega
      have HU := Lib.hid hU
      clear hU
      go_enter Try.func13, Try.ntmps13
      go_wp2
      go_quiet ((go_at_call 14; exact Calls.quiet_of_same ((moment_any _ _).mono fun _ _ h => ⟨h.1, h.2.symm⟩)))
      go_wp2
      go_ret
      exact ⟨ret_int (lev_gt HU.out HD.out (by rw [Int.sub_self, Int.zero_ediv]; omega)), below_drewN (((Below.refl _ _).alloc (Nat.le_refl _) _).alloc (by simp) _) _⟩
  · have hL : lev milli at_ ph bu now = units milli bu := lev_zero hp hb (by omega)
    have HL := Lib.hid hL
    clear hL
    rcases (show milli ≤ 0 ∨ (0 < milli ∧ milli ≤ bu * 3600000) ∨ bu * 3600000 < milli by omega) with h | ⟨h, h'⟩ | h
    · have hq : 0 ≤ bu * 3600000 / ph := Int.ediv_nonneg (by omega) (by omega)
      go_enter Try.func13, Try.ntmps13
      go_wp2
      go_quiet ((go_at_call 14; exact Calls.quiet_of_same ((moment_any _ _).mono fun _ _ h => ⟨h.1, h.2.symm⟩)))
      go_wp2
      go_ret
      exact ⟨ret_int (by rw [HL.out]; unfold units; omega), below_drewN (((Below.refl _ _).alloc (Nat.le_refl _) _).alloc (by simp) _) _⟩
    · have hq : 0 ≤ (bu * 3600000 - milli) / ph := Int.ediv_nonneg (by omega) (by omega)
      go_enter Try.func13, Try.ntmps13
      go_wp2
      go_quiet ((go_at_call 14; exact Calls.quiet_of_same ((moment_any _ _).mono fun _ _ h => ⟨h.1, h.2.symm⟩)))
      go_wp2
      go_ret
      exact ⟨ret_int (by rw [HL.out]; unfold units; omega), below_drewN (((Below.refl _ _).alloc (Nat.le_refl _) _).alloc (by simp) _) _⟩
    · go_enter Try.func13, Try.ntmps13
      go_wp2
      go_quiet ((go_at_call 14; exact Calls.quiet_of_same ((moment_any _ _).mono fun _ _ h => ⟨h.1, h.2.symm⟩)))
      go_wp2
      go_ret
      exact ⟨ret_int (by rw [HL.out]; unfold units; omega), below_drewN (((Below.refl _ _).alloc (Nat.le_refl _) _).alloc (by simp) _) _⟩

end Go.Proofs.Ytepjjfaakloedaa
