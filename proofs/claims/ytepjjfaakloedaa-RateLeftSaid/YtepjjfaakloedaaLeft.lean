/- The law RateLeft: its plain part and its walk. -/
import Derived.Test.YtepjjfaakloedaaSmall
import Derived.Deep.RegionHeld3
import Derived.Deep.DrawnRows
namespace Go.Proofs.Ytepjjfaakloedaa
open Go.RowKit
attribute [local go_sem ↓] Go.wp_at_zero Go.wp_at_succ

/-- One message is allowed: the level falls by an hour's units, the bucket's time is now. -/
theorem left_step {m a p b now : Int} (c1 : 1 ≤ p) (c2 : p ≤ 1000) (c3 : 1 ≤ b) (c4 : b ≤ 40) (c5 : 0 ≤ now) (c6 : now ≤ 70368744177664) (c7 : a ≤ now) (hl : 3600000 ≤ lev m a p b now) :
    aOk m a p b now = true ∧ aAt a now = now ∧ lev (aMilli m a p b now) now p b now = lev m a p b now - 3600000 ∧ left (aMilli m a p b now) (aAt a now) p b now = lev m a p b now / 3600000 - 1 := by
  have hp : lim p = p := by unfold lim; omega
  have hb : lim b = b := by unfold lim; omega
  have hA : aAt a now = now := by unfold aAt mom; omega
  have hO : aOk m a p b now = true := by unfold aOk; rw [hp, hb]; simpa using hl
  have hM : aMilli m a p b now = lev m a p b now - 3600000 := by unfold aMilli; rw [if_pos hO, hp, hb]
  have hbd := lev_bd m a p b now c1 c3
  have hL : lev (aMilli m a p b now) now p b now = lev m a p b now - 3600000 := by
    rw [lev_zero c1 c3 (by omega), hM]; unfold units; omega
  refine ⟨hO, hA, hL, ?_⟩
  unfold left
  rw [if_neg (by omega), hA, hp, hb, hL]
  omega

theorem mul_add3 (p x y : Int) : p * (x + y) = p * x + p * y := Int.mul_add p x y

/-- A message is refused: at any later time the bucket reads as if it had not been asked. -/
theorem left_end {m a p b now later : Int} (c1 : 1 ≤ p) (c2 : p ≤ 1000) (c3 : 1 ≤ b) (c4 : b ≤ 40) (c5 : 0 ≤ now) (c6 : now ≤ later) (c8 : later ≤ 70368744177664) (c7 : a ≤ now) (hl : lev m a p b now < 3600000) :
    aOk m a p b now = false ∧ left (aMilli m a p b now) (aAt a now) p b later = left m a p b later := by
  have hp : lim p = p := by unfold lim; omega
  have hb : lim b = b := by unfold lim; omega
  have hA : aAt a now = now := by unfold aAt mom; omega
  have hO : aOk m a p b now = false := by unfold aOk; rw [hp, hb]; simpa using hl
  have hM : aMilli m a p b now = lev m a p b now := by unfold aMilli; rw [if_neg (by rw [hO]; simp), hp, hb]
  refine ⟨hO, ?_⟩
  have hbd := lev_bd m a p b now c1 c3
  have hE : lev (lev m a p b now) now p b later = lev m a p b later := by
    have hu := units_bd m b c3
    have hU : units (lev m a p b now) b = lev m a p b now := by unfold units; omega
    rw [lev_eq _ _ _ _ later c1, hU, lev_eq m a p b later c1, lev_eq m a p b now c1]
    have e1 : passed later a = passed now a + passed later now := by unfold passed mom; omega
    have e2 := mul_add3 p (passed now a) (passed later now)
    have e3 : 0 ≤ p * passed later now := Int.mul_nonneg (by omega) (passed_bd later now).1
    rw [e1, e2]
    omega
  unfold left
  rw [if_neg (by omega), if_neg (by omega), hA, hM, hp, hb, hE]

set_option maxHeartbeats 400000 in
theorem rleft_out (milli at_ p b now later : Int) (w : World) (h : ¬ (1 ≤ p ∧ p ≤ 1000 ∧ 1 ≤ b ∧ b ≤ 40 ∧ 0 ≤ now ∧ now ≤ later ∧ later ≤ 70368744177664 ∧ at_ ≤ now)) :
    Calls Try.prog 5 #[.agg #[.int .i64 milli, .int .i64 at_], .int .i64 p, .int .i64 b, .int .i64 now, .int .i64 later] w fun e w' => e = .returned (.bool true) ∧ Below w.heap.size w w' := by
  rcases (show p < 1 ∨ (1 ≤ p ∧ 1000 < p) ∨ (1 ≤ p ∧ p ≤ 1000 ∧ b < 1) ∨ (1 ≤ p ∧ p ≤ 1000 ∧ 1 ≤ b ∧ 40 < b) ∨ (1 ≤ p ∧ p ≤ 1000 ∧ 1 ≤ b ∧ b ≤ 40 ∧ now < 0) ∨
    (1 ≤ p ∧ p ≤ 1000 ∧ 1 ≤ b ∧ b ≤ 40 ∧ 0 ≤ now ∧ later < now) ∨ (1 ≤ p ∧ p ≤ 1000 ∧ 1 ≤ b ∧ b ≤ 40 ∧ 0 ≤ now ∧ now ≤ later ∧ 70368744177664 < later) ∨ (1 ≤ p ∧ p ≤ 1000 ∧ 1 ≤ b ∧ b ≤ 40 ∧ 0 ≤ now ∧ now ≤ later ∧ later ≤ 70368744177664 ∧ now < at_) by omega) with
    c1 | ⟨c1, c2⟩ | ⟨c1, c2, c3⟩ | ⟨c1, c2, c3, c4⟩ | ⟨c1, c2, c3, c4, c5⟩ | ⟨c1, c2, c3, c4, c5, c6⟩ | ⟨c1, c2, c3, c4, c5, c6, c7⟩ | ⟨c1, c2, c3, c4, c5, c6, c7, c8⟩
  all_goals
    clear h
    go_enter Try.func5, Try.ntmps5
    go_wp2_with fail
    refine (small_any _).mono ?_
    rintro e w1 ⟨rfl, b1⟩
    obtain ⟨k0, k1, f0, f1, hz⟩ := cells2 b1
    go_wp2
    go_ret
    exact ⟨rfl, (((Below.refl _ _).alloc (Nat.le_refl _) _).trans (b1.mono (by simp)))⟩

/-- What holds at the head of the loop. -/
def LeftRel (w : World) (p b now L : Int) (i : Value) (wr : World) : Prop :=
  ∃ (k : Nat) (m a : Int), (k : Int) ≤ L / 3600000 ∧ i = .int .i64 k ∧ wr.cell? ⟨w.heap.size, 0, none⟩ = some (.int .i64 m) ∧ wr.cell? ⟨w.heap.size, 1, none⟩ = some (.int .i64 a) ∧
    wr.frozen? ⟨w.heap.size, 0, none⟩ = false ∧ wr.frozen? ⟨w.heap.size, 1, none⟩ = false ∧ a ≤ now ∧ lev m a p b now = L - k * 3600000 ∧ Below w.heap.size w wr ∧ w.heap.size < wr.heap.size

set_option maxHeartbeats 1000000 in
theorem rleft_main (milli at_ p b now later : Int) (w : World) (c1 : 1 ≤ p) (c2 : p ≤ 1000) (c3 : 1 ≤ b) (c4 : b ≤ 40) (c5 : 0 ≤ now) (c6 : now ≤ later) (c7 : later ≤ 70368744177664) (c8 : at_ ≤ now) :
    Calls Try.prog 5 #[.agg #[.int .i64 milli, .int .i64 at_], .int .i64 p, .int .i64 b, .int .i64 now, .int .i64 later] w fun e w' => e = .returned (.bool true) ∧ Below w.heap.size w w' := by
  have hp : lim p = p := by unfold lim; omega
  have hb : lim b = b := by unfold lim; omega
  obtain ⟨L, hL⟩ : ∃ L, lev milli at_ p b now = L := ⟨_, rfl⟩
  have hbd := lev_bd milli at_ p b now c1 c3
  rw [hL] at hbd
  have hn : left milli at_ p b now = L / 3600000 := by unfold left; rw [if_neg (by omega), hp, hb, hL]
  have HL := Lib.hid hL
  have HN := Lib.hid hn
  clear hL hn hp hb
  have n0 : 0 ≤ L / 3600000 := by omega
  have n1 : L / 3600000 ≤ b := by omega
  go_enter Try.func5, Try.ntmps5
  go_wp2_with fail
  refine (small_any _).mono ?_
  rintro e w1 ⟨rfl, b1⟩
  obtain ⟨k0, k1, f0, f1, hz⟩ := cells2 b1
  go_wp2_with fail
  refine (left_at (M := L / 3600000) _ HN.out).mono ?_
  rintro e w2 ⟨rfl, b2⟩
  have d1 : Below w.heap.size w w1 := (((Below.refl _ _).alloc (Nat.le_refl _) _).trans (b1.mono (by simp)))
  have d2 : Below w.heap.size w w2 := d1.trans (b2.mono d1.size)
  obtain ⟨hc2, hf2⟩ := bcell b2
  have j0 := (hc2 _ 0 hz).trans k0
  have j1 := (hc2 _ 1 hz).trans k1
  have g0 := (hf2 _ 0 hz).trans f0
  have g1 := (hf2 _ 1 hz).trans f1
  have hz2 : w.heap.size < w2.heap.size := by have := b2.size; omega
  clear hc2 hf2
  go_wp2
  go_loopw [13] (fun i wr => LeftRel w p b now L i wr) (fun i _ => (L / 3600000 - intOf i).toNat)
  case atStart =>
    exact ⟨0, milli, at_, by omega, rfl, j0, j1, g0, g1, c8, by rw [HL.out]; omega, d2, hz2⟩
  case round =>
    obtain ⟨k, m, a, hk, rfl, j0, j1, g0, g1, ha, hl, d2, hz2⟩ := hrel
    have HLv := Lib.hid hl
    clear hl
    by_cases hlt : (k : Int) < L / 3600000
    · obtain ⟨s1, s2, s3, s4⟩ := left_step (m := m) (a := a) c1 c2 c3 c4 c5 (by omega) ha (by rw [HLv.out]; omega)
      rw [HLv.out] at s3 s4
      obtain ⟨M, hM⟩ : ∃ M, aMilli m a p b now = M := ⟨_, rfl⟩
      rw [hM] at s3 s4
      rw [s2] at s4
      have s5 : left M now p b now = L / 3600000 - 1 - k := by rw [s4]; omega
      have S3 := Lib.hid s3
      have C := Lib.hid (fun w => allow_at w c1 c3 hM s2 s1)
      have C2 := Lib.hid (fun w => left_at w s5)
      clear s1 s2 s3 s4 s5 hM
      go_wp2_with fail
      refine (C.out _).mono ?_
      rintro e w3 ⟨rfl, b3⟩
      obtain ⟨hc3, hf3⟩ := bcell b3
      have l0 := (hc3 _ 0 hz2).trans j0
      have l1 := (hc3 _ 1 hz2).trans j1
      have m0 := (hf3 _ 0 hz2).trans g0
      have m1 := (hf3 _ 1 hz2).trans g1
      have hz3 : w.heap.size < w3.heap.size := by have := b3.size; omega
      have d3 : Below w.heap.size w w3 := d2.trans (b3.mono d2.size)
      clear hc3 hf3
      go_wp2_with fail
      refine (C2.out _).mono ?_
      rintro e w4 ⟨rfl, b4⟩
      obtain ⟨q0, q1, _, _, hz4⟩ := cells2 b4
      obtain ⟨hc4, hf4⟩ := bcell b4
      have r0 : w4.cell? ⟨w.heap.size, 0, none⟩ = some (.int .i64 m) := by rw [hc4 _ _ (by simp; omega)]; go_simp
      have r1 : w4.cell? ⟨w.heap.size, 1, none⟩ = some (.int .i64 a) := by rw [hc4 _ _ (by simp; omega)]; go_simp
      have t0 : w4.frozen? ⟨w.heap.size, 0, none⟩ = false := by rw [hf4 _ _ (by simp; omega)]; go_simp
      have t1 : w4.frozen? ⟨w.heap.size, 1, none⟩ = false := by rw [hf4 _ _ (by simp; omega)]; go_simp
      have hz5 : w.heap.size < w4.heap.size := by omega
      have d4 : Below w.heap.size w w4 := (d3.alloc d3.size _).trans (b4.mono (by have := d3.size; simp; omega))
      clear hc4 hf4 b3 b4 C C2
      go_wp2
      go_roundw
      case rel =>
        exact ⟨k + 1, M, now, by omega, by go_num, by go_simp, by go_simp, by go_simp, by go_simp, Int.le_refl _, by rw [S3.out]; omega, (d4.setCell (Nat.le_refl _) _).setCell (Nat.le_refl _) _, by simpa using hz5⟩
      case measure => simp [intOf]; omega
    · obtain ⟨s1, s2⟩ := left_end (m := m) (a := a) (p := p) (b := b) c1 c2 c3 c4 c5 c6 c7 ha (by rw [HLv.out]; omega)
      obtain ⟨M, hM⟩ : ∃ M, aMilli m a p b now = M := ⟨_, rfl⟩
      obtain ⟨A, hA⟩ : ∃ A, aAt a now = A := ⟨_, rfl⟩
      obtain ⟨R, hR⟩ : ∃ R, left m a p b later = R := ⟨_, rfl⟩
      rw [hM, hA, hR] at s2
      have C := Lib.hid (fun w => allow_at w c1 c3 hM hA s1)
      have C2 := Lib.hid (fun w => left_at w s2)
      have C3 := Lib.hid (fun w => left_at w hR)
      clear s1 s2 hM hA hR
      go_wp2_with fail
      refine (C.out _).mono ?_
      rintro e w3 ⟨rfl, b3⟩
      obtain ⟨hc3, hf3⟩ := bcell b3
      have l0 := (hc3 _ 0 hz2).trans j0
      have l1 := (hc3 _ 1 hz2).trans j1
      have hz3 : w.heap.size < w3.heap.size := by have := b3.size; omega
      have d3 : Below w.heap.size w w3 := d2.trans (b3.mono d2.size)
      clear hc3 hf3 b3
      go_wp2_with fail
      go_region_held3 (fun w' => w'.cell? ⟨w.heap.size, 0, none⟩ = some (.int .i64 m) ∧ w'.cell? ⟨w.heap.size, 1, none⟩ = some (.int .i64 a) ∧ w'.cell? ⟨w3.heap.size, 0, none⟩ = some (.int .i64 M) ∧ w'.cell? ⟨w3.heap.size, 1, none⟩ = some (.int .i64 A))
        (first | go_keep | (go_split_ands; exact ⟨cell_later b4 (by go_keep), cell_later b4 (by go_keep), cell_later b4 (by go_keep), cell_later b4 (by go_keep)⟩) | (go_split_ands; exact ⟨cell_later b5 (by go_keep), cell_later b5 (by go_keep), cell_later b5 (by go_keep), cell_later b5 (by go_keep)⟩))
        (first | ((go_at_call_of 10 (Value.agg #[Value.int IntKind.i64 M, Value.int IntKind.i64 A]); refine (C2.out _).mono ?_; rintro e w4 ⟨rfl, b4⟩)) | ((go_at_call 10; refine (C3.out _).mono ?_; rintro e w5 ⟨rfl, b5⟩)))
      go_wp2
      go_ret
      refine ⟨rfl, ?_⟩
      have d4 : Below w.heap.size w w4 := ((d3.alloc d3.size _).drew).trans (b4.mono (by have := d3.size; simp; omega))
      exact d4.trans (b5.mono d4.size)
theorem rleft_any (milli at_ p b now later : Int) (w : World) :
    Calls Try.prog 5 #[.agg #[.int .i64 milli, .int .i64 at_], .int .i64 p, .int .i64 b, .int .i64 now, .int .i64 later] w fun e w' => e = .returned (.bool true) ∧ Below w.heap.size w w' := by
  by_cases h : 1 ≤ p ∧ p ≤ 1000 ∧ 1 ≤ b ∧ b ≤ 40 ∧ 0 ≤ now ∧ now ≤ later ∧ later ≤ 70368744177664 ∧ at_ ≤ now
  · obtain ⟨c1, c2, c3, c4, c5, c6, c7, c8⟩ := h
    exact rleft_main _ _ _ _ _ _ _ c1 c2 c3 c4 c5 c6 c7 c8
  · exact rleft_out _ _ _ _ _ _ _ h

end Go.Proofs.Ytepjjfaakloedaa
