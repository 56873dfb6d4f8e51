/- The contracts of rate.Left and rate.Allow. -/
import Derived.Test.YtepjjfaakloedaaWalks
namespace Go.Proofs.Ytepjjfaakloedaa
open Go.RowKit

/-- What Left answers. -/
def left (milli at_ p b now : Int) : Int := if p < 1 ∨ b < 1 then -1 else lev milli at_ (lim p) (lim b) now / 3600000
theorem lim_bd (p : Int) (h : 1 ≤ p) : 1 ≤ lim p ∧ lim p ≤ 1000000 := by unfold lim; omega

theorem left_yes (milli at_ p b now : Int) (w : World) (hp : 1 ≤ p) (hb : 1 ≤ b) :
    Calls Try.prog 10 #[.agg #[.int .i64 milli, .int .i64 at_], .int .i64 p, .int .i64 b, .int .i64 now] w fun e w' => e = .returned (.int .i64 (left milli at_ p b now)) ∧ Below w.heap.size w w' := by
  have hL : lev milli at_ (lim p) (lim b) now / 3600000 = left milli at_ p b now := by unfold left; rw [if_neg (by omega)]
  have HL := Lib.hid hL
  clear hL
  obtain ⟨p1, p2⟩ := lim_bd p hp
  obtain ⟨b1, b2⟩ := lim_bd b hb
  obtain ⟨l1, l2⟩ := lev_bd milli at_ (lim p) (lim b) now p1 b1
  go_enter Try.func10, Try.ntmps10
  go_wp2_with fail
  refine (limit_yes _ _ _ hp hb).mono ?_
  rintro e w1 ⟨rfl, hb1⟩
  obtain ⟨k0, k1, f0, f1, hz⟩ := cells2 hb1
  go_wp2_with fail
  refine (level_any _ _ _ _ _ _ p1 p2 b1 b2).mono ?_
  rintro e w2 ⟨rfl, hb2⟩
  go_wp2
  go_ret
  refine ⟨ret_int HL.out, ?_⟩
  have hb3 : Below w.heap.size w w1 := (((Below.refl _ _).alloc (Nat.le_refl _) _).trans (hb1.mono (by simp)))
  exact (hb3.alloc (by omega) _).trans (hb2.mono (by simp; omega))

theorem left_no (milli at_ p b now : Int) (w : World) (h : p < 1 ∨ b < 1) :
    Calls Try.prog 10 #[.agg #[.int .i64 milli, .int .i64 at_], .int .i64 p, .int .i64 b, .int .i64 now] w fun e w' => e = .returned (.int .i64 (left milli at_ p b now)) ∧ Below w.heap.size w w' := by
  have hL : -1 = left milli at_ p b now := by unfold left; rw [if_pos (by omega)]
  have HL := Lib.hid hL
  clear hL
  go_enter Try.func10, Try.ntmps10
  go_wp2_with fail
  refine (limit_no _ _ _ h).mono ?_
  rintro e w1 ⟨rfl, hb1⟩
  obtain ⟨k0, k1, f0, f1, hz⟩ := cells2 hb1
  go_wp2
  go_ret
  refine ⟨ret_int HL.out, ?_⟩
  have hb3 : Below w.heap.size w w1 := (((Below.refl _ _).alloc (Nat.le_refl _) _).trans (hb1.mono (by simp)))
  exact (hb3.alloc (by omega) _)

theorem left_any (milli at_ p b now : Int) (w : World) :
    Calls Try.prog 10 #[.agg #[.int .i64 milli, .int .i64 at_], .int .i64 p, .int .i64 b, .int .i64 now] w fun e w' => e = .returned (.int .i64 (left milli at_ p b now)) ∧ Below w.heap.size w w' := by
  by_cases h : p < 1 ∨ b < 1
  · exact left_no _ _ _ _ _ _ h
  · exact left_yes _ _ _ _ _ _ (by omega) (by omega)

/-- What Allow answers where there is a limit. -/
def aOk (milli at_ p b now : Int) : Bool := decide (3600000 ≤ lev milli at_ (lim p) (lim b) now)
def aMilli (milli at_ p b now : Int) : Int := if aOk milli at_ p b now = true then lev milli at_ (lim p) (lim b) now - 3600000 else lev milli at_ (lim p) (lim b) now
def aAt (at_ now : Int) : Int := max (mom now) (mom at_)

theorem ret_allow {a b a' b' : Int} {o o' : Bool} (h : a = a') (h' : b = b') (h2 : o = o') : Ending.returned (.tuple #[.agg #[.int .i64 a, .int .i64 b], .bool o]) = .returned (.tuple #[.agg #[.int .i64 a', .int .i64 b'], .bool o']) := by rw [h, h', h2]

theorem cells22 {w w1 : World} {a b c d : Value} {T U : TypeId} (hb : Below ((w.alloc (.cells #[a, b] T)).alloc (.cells #[c, d] U)).heap.size ((w.alloc (.cells #[a, b] T)).alloc (.cells #[c, d] U)) w1) :
    w1.cell? ⟨w.heap.size, 0, none⟩ = some a ∧ w1.cell? ⟨w.heap.size, 1, none⟩ = some b ∧ w1.frozen? ⟨w.heap.size, 0, none⟩ = false ∧ w1.frozen? ⟨w.heap.size, 1, none⟩ = false ∧
    w1.cell? ⟨w.heap.size + 1, 0, none⟩ = some c ∧ w1.cell? ⟨w.heap.size + 1, 1, none⟩ = some d ∧ w1.frozen? ⟨w.heap.size + 1, 0, none⟩ = false ∧ w1.frozen? ⟨w.heap.size + 1, 1, none⟩ = false ∧ w.heap.size + 1 < w1.heap.size := by
  obtain ⟨hc, hf⟩ := bcell hb
  refine ⟨?_, ?_, ?_, ?_, ?_, ?_, ?_, ?_, ?_⟩
  · rw [hc _ _ (by simp; omega)]; simp [go_sem]
  · rw [hc _ _ (by simp; omega)]; simp [go_sem]
  · rw [hf _ _ (by simp; omega)]; simp [go_sem]
  · rw [hf _ _ (by simp; omega)]; simp [go_sem]
  · rw [hc _ _ (by simp)]; simp [go_sem]
  · rw [hc _ _ (by simp)]; simp [go_sem]
  · rw [hf _ _ (by simp)]; simp [go_sem]
  · rw [hf _ _ (by simp)]; simp [go_sem]
  · have := hb.size; simp at this; omega

theorem allow_yes (milli at_ p b now : Int) (w : World) (hp : 1 ≤ p) (hb : 1 ≤ b) :
    Calls Try.prog 9 #[.agg #[.int .i64 milli, .int .i64 at_], .int .i64 p, .int .i64 b, .int .i64 now] w fun e w' => e = .returned (.tuple #[.agg #[.int .i64 (aMilli milli at_ p b now), .int .i64 (aAt at_ now)], .bool (aOk milli at_ p b now)]) ∧ Below w.heap.size w w' := by
  obtain ⟨p1, p2⟩ := lim_bd p hp
  obtain ⟨b1, b2⟩ := lim_bd b hb
  obtain ⟨l1, l2⟩ := lev_bd milli at_ (lim p) (lim b) now p1 b1
  have HT : Hid (aAt at_ now = if mom now < mom at_ then mom at_ else mom now) := by unfold aAt; show _ = _; split <;> omega
  have HM : Hid (aMilli milli at_ p b now = if 3600000 ≤ lev milli at_ (lim p) (lim b) now then lev milli at_ (lim p) (lim b) now - 3600000 else lev milli at_ (lim p) (lim b) now) := by unfold aMilli aOk; simp [Hid]
  have HO : Hid (aOk milli at_ p b now = decide (3600000 ≤ lev milli at_ (lim p) (lim b) now)) := rfl
  by_cases hm : mom now < mom at_ <;> by_cases ho : 3600000 ≤ lev milli at_ (lim p) (lim b) now
  all_goals
    go_enter Try.func9, Try.ntmps9
    go_wp2_with fail
    refine (limit_yes _ _ _ hp hb).mono ?_
    rintro e w1 ⟨rfl, hb1⟩
    obtain ⟨k0, k1, f0, f1, k2, k3, f2, f3, hz⟩ := cells22 hb1
    have hz0 : w.heap.size < w1.heap.size := by omega
    go_wp2_with fail
    refine (level_any _ _ _ _ _ _ p1 p2 b1 b2).mono ?_
    rintro e w2 ⟨rfl, hb2⟩
    obtain ⟨hc2, hf2⟩ := bcell hb2
    have hz2 : w1.heap.size < w2.heap.size := by have := hb2.size; simp at this; omega
    have hz3 : w.heap.size < w2.heap.size := by omega
    have hz4 : w.heap.size + 1 < w2.heap.size := by omega
    have m1 : w2.cell? ⟨w.heap.size, 1, none⟩ = some (.int .i64 at_) := by rw [hc2 _ _ (by simp; omega)]; go_simp
    have m2 : w2.cell? ⟨w.heap.size + 1, 0, none⟩ = some (.int .i64 0) := by rw [hc2 _ _ (by simp; omega)]; go_simp
    have m3 : w2.cell? ⟨w.heap.size + 1, 1, none⟩ = some (.int .i64 0) := by rw [hc2 _ _ (by simp; omega)]; go_simp
    have g2 : w2.frozen? ⟨w.heap.size + 1, 0, none⟩ = false := by rw [hf2 _ _ (by simp; omega)]; go_simp
    have g3 : w2.frozen? ⟨w.heap.size + 1, 1, none⟩ = false := by rw [hf2 _ _ (by simp; omega)]; go_simp
    have hb3 : Below w.heap.size w w2 := ((((Below.refl _ _).alloc (Nat.le_refl _) _).alloc (by simp) _).trans (hb1.mono (by simp; omega))).alloc (by omega) _ |>.trans (hb2.mono (by simp; omega))
    clear hc2 hf2 hb1 hb2
    go_wp2
    go_quiet ((go_at_call 14; exact Calls.quiet_of_same ((moment_any _ _).mono fun _ _ h => ⟨h.1, h.2.symm⟩)))
    go_wp2
    refine bodyPost_ret (v := .tuple #[.agg #[.int .i64 (aMilli milli at_ p b now), .int .i64 (aAt at_ now)], .bool (aOk milli at_ p b now)]) (by
        rw [HM.out, HT.out, HO.out]; simp [results, Try.results9, go_sem, m2, m3]; try omega) rfl ⟨rfl, ?_⟩
    exact ((below_drewN hb3 _).setCell (by simp) _).setCell (by simp) _

theorem allow_no (milli at_ p b now : Int) (w : World) (h : p < 1 ∨ b < 1) :
    Calls Try.prog 9 #[.agg #[.int .i64 milli, .int .i64 at_], .int .i64 p, .int .i64 b, .int .i64 now] w fun e w' => e = .returned (.tuple #[.agg #[.int .i64 milli, .int .i64 at_], .bool true]) ∧ Below w.heap.size w w' := by
  go_enter Try.func9, Try.ntmps9
  go_wp2_with fail
  refine (limit_no _ _ _ h).mono ?_
  rintro e w1 ⟨rfl, hb1⟩
  obtain ⟨k0, k1, f0, f1, k2, k3, f2, f3, hz⟩ := cells22 hb1
  have hz0 : w.heap.size < w1.heap.size := by omega
  go_wp2
  refine bodyPost_ret (v := .tuple #[.agg #[.int .i64 milli, .int .i64 at_], .bool true]) (by
      simp [results, Try.results9, go_sem, k2, k3, hz]) rfl ⟨rfl, ?_⟩
  have hb3 : Below w.heap.size w w1 := (((Below.refl _ _).alloc (Nat.le_refl _) _).alloc (by simp) _).trans (hb1.mono (by simp; omega))
  exact (((hb3.setCell (by simp) _).setCell (by simp) _).alloc (by simp; omega) _)

end Go.Proofs.Ytepjjfaakloedaa
