/- The plain part of RateWindow: what is allowed between two times. -/
import Derived.Test.YtepjjfaakloedaaSorted
namespace Go.Proofs.Ytepjjfaakloedaa
open Go.RowKit

/-- What holds behind each call of Allow: 'last' is the last time, A the times at which a message was allowed. -/
structure WInv (p b a0 m a last : Int) (A : List Int) : Prop where
  lo : 0 ≤ last
  hi : last ≤ 70368744177664
  now : mom a = max last a0
  a0lo : 0 ≤ a0
  a0hi : a0 ≤ 70368744177664
  up : ∀ i, i < A.length → A.getD i 0 ≤ last
  pos : ∀ i, i < A.length → 0 ≤ A.getD i 0
  one : ∀ i, i < A.length → ((A.length : Int) - i) * 3600000 + units m b ≤ b * 3600000 + p * (max last a0 - max (A.getD i 0) a0)
  two : ∀ i k, i ≤ k → k < A.length → ((k : Int) - i + 1) * 3600000 ≤ b * 3600000 + p * (A.getD k 0 - A.getD i 0)
  asc : ∀ i k, i ≤ k → k < A.length → A.getD i 0 ≤ A.getD k 0

theorem winv_start (p b m a : Int) : WInv p b (mom a) m a 0 [] := by
  have h := mom_bd a
  refine ⟨by omega, by omega, by omega, h.1, h.2, ?_, ?_, ?_, ?_, ?_⟩ <;> intros <;> simp at *

theorem winv_lev {p b a0 m a last t : Int} {A : List Int} (c1 : 1 ≤ p) (c3 : 1 ≤ b) (h : WInv p b a0 m a last A) (ht : last ≤ t) (ht2 : t ≤ 70368744177664) :
    passed t a = max t a0 - max last a0 ∧ lev m a p b t ≤ units m b + p * (max t a0 - max last a0) ∧ lev m a p b t ≤ b * 3600000 ∧ 0 ≤ lev m a p b t := by
  have h0 := h.lo; have h1 := h.hi; have h2 := h.now
  have hp : passed t a = max t a0 - max last a0 := by
    unfold passed; rw [h2]
    have : mom t = t := by unfold mom; omega
    rw [this]; omega
  have hb := lev_bd m a p b t c1 c3
  refine ⟨hp, ?_, hb.2, hb.1⟩
  rw [lev_eq _ _ _ _ _ c1, hp]
  omega

theorem getD_app_lt (A : List Int) (t : Int) (i : Nat) (h : i < A.length) : (A ++ [t]).getD i 0 = A.getD i 0 := by
  rw [List.getD_eq_getElem?_getD, List.getD_eq_getElem?_getD, List.getElem?_append_left h]
theorem getD_app_last (A : List Int) (t : Int) : (A ++ [t]).getD A.length 0 = t := by
  rw [List.getD_eq_getElem?_getD, List.getElem?_append_right (Nat.le_refl _)]; simp

theorem winv_step {p b a0 m a last t : Int} {A : List Int} (c1 : 1 ≤ p) (c2 : p ≤ 1000) (c3 : 1 ≤ b) (c4 : b ≤ 1000) (h : WInv p b a0 m a last A) (ht : last ≤ t) (ht2 : t ≤ 70368744177664) :
    WInv p b a0 (aMilli m a p b t) (aAt a t) t (if aOk m a p b t = true then A ++ [t] else A) := by
  obtain ⟨hpas, hl1, hl2, hl3⟩ := winv_lev c1 c3 h ht ht2
  have h0 := h.lo; have h1 := h.hi; have h2 := h.now; have h3 := h.a0lo; have h4 := h.a0hi
  have hp : lim p = p := by unfold lim; omega
  have hb : lim b = b := by unfold lim; omega
  have hmt : mom t = t := by unfold mom; omega
  have hAt : aAt a t = max t a0 := by unfold aAt; rw [hmt, h2]; omega
  have hnow : mom (aAt a t) = max t a0 := by rw [hAt]; unfold mom; omega
  have hd : ∀ i, i < A.length → p * (max t a0 - max (A.getD i 0) a0) = p * (max t a0 - max last a0) + p * (max last a0 - max (A.getD i 0) a0) := fun i _ => by
    rw [← Int.mul_add]; congr 1; omega
  by_cases ho : aOk m a p b t = true
  · rw [if_pos ho]
    have hge : 3600000 ≤ lev m a p b t := by unfold aOk at ho; rw [hp, hb] at ho; simpa using ho
    have hM : units (aMilli m a p b t) b = lev m a p b t - 3600000 := by
      unfold aMilli; rw [if_pos ho, hp, hb]; unfold units; omega
    have hup : ∀ i, i < A.length → A.getD i 0 ≤ t := fun i hi => by have := h.up i hi; omega
    have hone : ∀ i, i < A.length → ((A.length : Int) + 1 - i) * 3600000 + (lev m a p b t - 3600000) ≤ b * 3600000 + p * (max t a0 - max (A.getD i 0) a0) := fun i hi => by
      have := h.one i hi
      rw [hd i hi]
      omega
    refine ⟨by omega, ht2, hnow, h3, h4, ?_, ?_, ?_, ?_, ?_⟩
    · intro i hi
      rw [List.length_append, List.length_singleton] at hi
      rcases Nat.lt_or_ge i A.length with hlt | hge'
      · rw [getD_app_lt _ _ _ hlt]; exact hup i hlt
      · obtain rfl : i = A.length := by omega
        rw [getD_app_last]; omega
    · intro i hi
      rw [List.length_append, List.length_singleton] at hi
      rcases Nat.lt_or_ge i A.length with hlt | hge'
      · rw [getD_app_lt _ _ _ hlt]; exact h.pos i hlt
      · obtain rfl : i = A.length := by omega
        rw [getD_app_last]; omega
    · intro i hi
      rw [List.length_append, List.length_singleton] at hi
      rw [List.length_append, List.length_singleton, hM]
      rcases Nat.lt_or_ge i A.length with hlt | hge'
      · rw [getD_app_lt _ _ _ hlt]
        have := hone i hlt
        omega
      · obtain rfl : i = A.length := by omega
        rw [getD_app_last, Int.sub_self, Int.mul_zero]; omega
    · intro i k hik hk
      rw [List.length_append, List.length_singleton] at hk
      rcases Nat.lt_or_ge k A.length with hlt | hge'
      · rw [getD_app_lt _ _ _ hlt, getD_app_lt _ _ _ (by omega)]; exact h.two i k hik hlt
      · obtain rfl : k = A.length := by omega
        rw [getD_app_last]
        rcases Nat.lt_or_ge i A.length with hlt | hge''
        · rw [getD_app_lt _ _ _ hlt]
          have e1 := hone i hlt
          have e2 : p * (max t a0 - max (A.getD i 0) a0) ≤ p * (t - A.getD i 0) := Int.mul_le_mul_of_nonneg_left (by have := hup i hlt; omega) (by omega)
          omega
        · obtain rfl : i = A.length := by omega
          rw [getD_app_last, Int.sub_self t, Int.mul_zero]; omega
    · intro i k hik hk
      rw [List.length_append, List.length_singleton] at hk
      rcases Nat.lt_or_ge k A.length with hlt | hge'
      · rw [getD_app_lt _ _ _ hlt, getD_app_lt _ _ _ (by omega)]; exact h.asc i k hik hlt
      · obtain rfl : k = A.length := by omega
        rw [getD_app_last]
        rcases Nat.lt_or_ge i A.length with hlt | hge''
        · rw [getD_app_lt _ _ _ hlt]; exact hup i hlt
        · obtain rfl : i = A.length := by omega
          rw [getD_app_last]; omega
  · rw [if_neg ho]
    have hM : units (aMilli m a p b t) b = lev m a p b t := by
      unfold aMilli; rw [if_neg ho, hp, hb]; unfold units; omega
    refine ⟨by omega, ht2, hnow, h3, h4, fun i hi => by have := h.up i hi; omega, h.pos, ?_, h.two, h.asc⟩
    intro i hi
    have := h.one i hi
    rw [hM, hd i hi]
    omega

/-- The check of the law at a pair. -/
theorem pair_ok {p b n w : Int} (h : n * 3600000 ≤ b * 3600000 + p * w) : n ≤ b + p * (w / 3600000) + p * (w % 3600000) / 3600000 := by
  have e : p * w = 3600000 * (p * (w / 3600000)) + p * (w % 3600000) := by
    have h1 := Int.mul_ediv_add_emod w 3600000
    have h2 : p * w = p * (3600000 * (w / 3600000) + w % 3600000) := by rw [h1]
    rw [h2, Int.mul_add, ← Int.mul_assoc, Int.mul_comm p 3600000, Int.mul_assoc]
  rw [e] at h
  generalize p * (w / 3600000) = X at *
  generalize p * (w % 3600000) = Y at *
  omega

end Go.Proofs.Ytepjjfaakloedaa
