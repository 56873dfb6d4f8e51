/- Words come back from Squeeze, in plain Lean. -/
import Derived.Test.YthnpedkinelemaaWordsMore
import Derived.Test.YthnpedkinelemaaSqueeze
namespace Go.Proofs.Ythnpedkinelemaa

theorem words_sq : ∀ (n : Nat) (xs : List (List UInt8)), xs.length ≤ n → (∀ x ∈ xs, x ≠ [] ∧ ∀ c ∈ x, whiteB c = false) → wordsP whiteB (sqP xs) = xs
  | 0, xs, hn, _ => by
    obtain rfl : xs = [] := List.length_eq_zero_iff.1 (by omega)
    rfl
  | n + 1, xs, hn, h => by
    rcases List.eq_nil_or_concat xs with rfl | ⟨pre, x, e⟩
    · rfl
    · have e' : xs = pre ++ [x] := by simpa using e
      subst e'
      have ih := words_sq n pre (by simp at hn; omega) fun y hy => h y (by simp [hy])
      obtain ⟨hx1, hx2⟩ := h x (by simp)
      rw [sqP_append]
      unfold sqStep
      by_cases h0 : 0 < (sqP pre).length
      · rw [if_pos h0, List.append_assoc, List.singleton_append, words_split whiteB _ _ 32 x (Nat.le_refl _) (by decide), ih, words_one whiteB x hx1 hx2]
      · have hq : sqP pre = [] := List.length_eq_zero_iff.1 (by omega)
        rw [hq] at ih
        rw [if_neg h0, hq, List.nil_append, words_one whiteB x hx1 hx2, ← ih]; rfl

theorem sqP_len (m : Nat) : ∀ (n : Nat) (xs : List (List UInt8)), xs.length ≤ n → (∀ x ∈ xs, x.length ≤ m) → (sqP xs).length ≤ xs.length * (m + 1)
  | 0, xs, hn, _ => by
    obtain rfl : xs = [] := List.length_eq_zero_iff.1 (by omega)
    simp [sqP]
  | n + 1, xs, hn, h => by
    rcases List.eq_nil_or_concat xs with rfl | ⟨pre, x, e⟩
    · simp [sqP]
    · have e' : xs = pre ++ [x] := by simpa using e
      subst e'
      have ih := sqP_len m n pre (by simp at hn; omega) fun y hy => h y (by simp [hy])
      have hx := h x (by simp)
      rw [sqP_append]
      unfold sqStep
      have e3 : (pre ++ [x]).length = pre.length + 1 := by simp
      rw [e3, Nat.succ_mul]
      split
      · simp only [List.length_append, List.length_cons, List.length_nil]; omega
      · simp only [List.length_append]; omega

/-- The bytes that are not white. -/
def nw (l : List UInt8) : List UInt8 := l.filter fun c => !whiteB c
theorem nw_step_white (l : List UInt8) (k : Nat) (h : k < l.length) (hw : whiteB (l.getD k 0) = true) : nw (l.drop (k + 1)) = nw (l.drop k) := by
  rw [List.drop_eq_getElem_cons h, ← getD_lt l k h]; unfold nw; rw [List.filter_cons_of_neg (by rw [hw]; simp)]
theorem nw_step_other (l : List UInt8) (k : Nat) (h : k < l.length) (hw : whiteB (l.getD k 0) = false) : nw (l.drop k) = l.getD k 0 :: nw (l.drop (k + 1)) := by
  rw [List.drop_eq_getElem_cons h, ← getD_lt l k h]; unfold nw; rw [List.filter_cons_of_pos (by rw [hw]; rfl)]
end Go.Proofs.Ythnpedkinelemaa
