/- Lines of bytes, in plain Lean. -/
import Derived.Lib.IndexLaws
import Derived.Lib.IndexMore
import Derived.Lib.Strings
namespace Go.Proofs.Ythnpedkinelemaa

/-- A line without one CR at its end. -/
def trimCR (a : List UInt8) : List UInt8 := Lib.trimSuffix a [13]

def linesN : Nat → List UInt8 → List (List UInt8)
  | 0, _ => []
  | n + 1, l => if l = [] then [] else if 10 ∈ l then trimCR (l.takeWhile (· != 10)) :: linesN n ((l.dropWhile (· != 10)).drop 1) else [l]
def linesP (l : List UInt8) : List (List UInt8) := linesN l.length l

theorem drop1_length (l : List UInt8) (h : l ≠ []) : ((l.dropWhile (· != 10)).drop 1).length < l.length := by
  have h1 : (l.dropWhile (· != 10)).length ≤ l.length := (List.dropWhile_sublist _).length_le
  have h2 : 0 < l.length := (List.length_pos_iff.2 h)
  rw [List.length_drop]; omega

theorem linesN_eq : ∀ (n m : Nat) (l : List UInt8), l.length ≤ n → l.length ≤ m → linesN n l = linesN m l := by
  intro n
  induction n with
  | zero =>
    intro m l h _
    have : l = [] := List.length_eq_zero_iff.1 (by omega)
    subst this
    cases m <;> simp [linesN]
  | succ n ih =>
    intro m l h hm
    by_cases hl : l = []
    · subst hl; cases m <;> simp [linesN]
    · have hlt := drop1_length l hl
      have hp : 0 < l.length := (List.length_pos_iff.2 hl)
      obtain ⟨m, rfl⟩ : ∃ k, m = k + 1 := ⟨m - 1, by omega⟩
      simp only [linesN, if_neg hl]
      rw [ih m _ (by omega) (by omega)]

theorem linesP_nil : linesP [] = [] := rfl
theorem linesP_last (l : List UInt8) (h : l ≠ []) (h10 : 10 ∉ l) : linesP l = [l] := by
  have hp : 0 < l.length := (List.length_pos_iff.2 h)
  obtain ⟨n, hn⟩ : ∃ k, l.length = k + 1 := ⟨l.length - 1, by omega⟩
  simp only [linesP, hn, linesN, if_neg h, if_neg h10]

theorem takeWhile_no (a r : List UInt8) (h : 10 ∉ a) : (a ++ 10 :: r).takeWhile (· != 10) = a ∧ (a ++ 10 :: r).dropWhile (· != 10) = 10 :: r := by
  induction a with
  | nil => simp
  | cons x a ih =>
    simp only [List.mem_cons, not_or] at h
    have hx : (x != 10) = true := by simp; exact fun e => h.1 e.symm
    obtain ⟨h1, h2⟩ := ih h.2
    simp [hx, h1, h2]

theorem linesP_cons (a r : List UInt8) (h : 10 ∉ a) : linesP (a ++ 10 :: r) = trimCR a :: linesP r := by
  obtain ⟨h1, h2⟩ := takeWhile_no a r h
  have hn : (a ++ 10 :: r).length = (a.length + r.length) + 1 := by simp; omega
  unfold linesP
  rw [hn]
  simp only [linesN]
  rw [if_neg (by simp), if_pos (by simp), h1, h2]
  simp only [List.drop_succ_cons, List.drop_zero]
  rw [linesN_eq _ r.length r (by omega) (Nat.le_refl _)]

theorem lines_none {l : List UInt8} (h : Lib.indexByte l 10 = -1) : 10 ∉ l := by
  intro hm
  obtain ⟨k, hk, e⟩ := List.getElem_of_mem hm
  exact Lib.indexByte_none h k (by rw [List.getElem?_eq_getElem hk, e])

theorem lines_some {l : List UInt8} {o : Nat} (h : Lib.indexByte l 10 = o) : o < l.length ∧ 10 ∉ l.take o ∧ l = l.take o ++ 10 :: l.drop (o + 1) := by
  obtain ⟨h1, h2⟩ := Lib.indexByte_some h
  have ho : o < l.length := (List.getElem?_eq_some_iff.1 h1).1
  have he : l[o] = 10 := (List.getElem?_eq_some_iff.1 h1).2
  refine ⟨ho, ?_, ?_⟩
  · intro hm
    obtain ⟨k, hk, e⟩ := List.getElem_of_mem hm
    simp only [List.length_take] at hk
    rw [List.getElem_take] at e
    exact h2 k (by omega) (by rw [List.getElem?_eq_getElem (by omega), e])
  · rw [← he, ← List.drop_eq_getElem_cons ho, List.take_append_drop]

theorem lines_step_none {l : List UInt8} (hl : l ≠ []) (h : Lib.indexByte l 10 = -1) : linesP l = [l] := linesP_last l hl (lines_none h)
theorem lines_step_some {l : List UInt8} {o : Nat} (h : Lib.indexByte l 10 = o) : linesP l = trimCR (l.take o) :: linesP (l.drop (o + 1)) := by
  obtain ⟨_, h1, h2⟩ := lines_some h
  rw [← linesP_cons _ _ h1, ← h2]
end Go.Proofs.Ythnpedkinelemaa
