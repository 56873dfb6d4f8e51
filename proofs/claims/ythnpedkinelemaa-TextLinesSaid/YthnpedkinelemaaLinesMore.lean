/- What the law TextLines asks of lines, in plain Lean. -/
import Derived.Test.YthnpedkinelemaaLinesPlain
import Derived.Test.YthnpedkinelemaaUnlines
namespace Go.Proofs.Ythnpedkinelemaa

theorem trimCR_sub (a : List UInt8) : ∀ c ∈ trimCR a, c ∈ a := by
  intro c h
  unfold trimCR Lib.trimSuffix at h
  split at h
  · exact List.mem_of_mem_take h
  · exact h
theorem trimCR_length (a : List UInt8) : (trimCR a).length ≤ a.length := by
  unfold trimCR Lib.trimSuffix
  split
  · rw [List.length_take]; omega
  · exact Nat.le_refl _

theorem lines_split (l : List UInt8) : 10 ∉ l ∨ ∃ a r, l = a ++ 10 :: r ∧ 10 ∉ a := by
  by_cases h : 10 ∈ l
  · right
    rcases Int.lt_or_le (Lib.indexByte l 10) 0 with h1 | h1
    · have := Lib.indexByte_ge l 10
      exact absurd h (lines_none (by omega))
    · obtain ⟨o, e⟩ := Int.eq_ofNat_of_zero_le h1
      obtain ⟨_, h2, h3⟩ := lines_some e
      exact ⟨_, _, h3, h2⟩
  · exact .inl h

theorem lines_facts : ∀ (n : Nat) (l : List UInt8), l.length ≤ n → (linesP l).length ≤ l.length ∧ ∀ y ∈ linesP l, 10 ∉ y ∧ y.length ≤ l.length
  | 0, l, h => by
    obtain rfl : l = [] := List.length_eq_zero_iff.1 (by omega)
    simp [linesP_nil]
  | n + 1, l, h => by
    by_cases hl : l = []
    · subst hl; simp [linesP_nil]
    rcases lines_split l with h10 | ⟨a, r, rfl, h10⟩
    · rw [linesP_last l hl h10]
      refine ⟨?_, fun y hy => ?_⟩
      · have := List.length_pos_iff.2 hl; simp; omega
      · simp at hy; subst hy; exact ⟨h10, Nat.le_refl _⟩
    · rw [linesP_cons a r h10]
      have hlen : (a ++ 10 :: r).length = a.length + r.length + 1 := by simp; omega
      obtain ⟨h1, h2⟩ := lines_facts n r (by omega)
      refine ⟨by simp only [List.length_cons]; omega, fun y hy => ?_⟩
      rcases List.mem_cons.1 hy with rfl | hy
      · exact ⟨fun h => h10 (trimCR_sub a _ h), by have := trimCR_length a; omega⟩
      · obtain ⟨h3, h4⟩ := h2 y hy
        exact ⟨h3, by omega⟩

/-- A line without LF that does not end with CR. -/
def fine (y : List UInt8) : Prop := 10 ∉ y ∧ trimCR y = y

theorem fine_of {y : List UInt8} (h : 10 ∉ y) (hl : y = [] ∨ ∃ h : y ≠ [], y.getLast h ≠ 13) : fine y := by
  refine ⟨h, ?_⟩
  unfold trimCR Lib.trimSuffix Lib.hasSuffix
  rcases hl with rfl | ⟨hne, hl⟩
  · rfl
  · have hn : ¬ [13].isSuffixOf y = true := by
      rw [List.isSuffixOf_iff_suffix]
      rintro ⟨t, rfl⟩
      simp at hl
    rw [if_neg hn]

theorem trimCR_add (y : List UInt8) : trimCR (y ++ [13]) = y := by
  unfold trimCR Lib.trimSuffix Lib.hasSuffix
  rw [if_pos (by rw [List.isSuffixOf_iff_suffix]; exact ⟨y, rfl⟩)]
  simp

theorem lines_unP : ∀ (xs : List (List UInt8)), (∀ y ∈ xs, fine y) → linesP (unP xs) = xs
  | [], _ => rfl
  | x :: xs, h => by
    have e : unP (x :: xs) = x ++ 10 :: unP xs := by simp [unP]
    obtain ⟨h1, h2⟩ := h x (by simp)
    rw [e, linesP_cons _ _ h1, h2, lines_unP xs fun y hy => h y (by simp [hy])]

/-- Each with CR LF. -/
def crP (xs : List (List UInt8)) : List UInt8 := (xs.map fun x => x ++ [13, 10]).flatten
theorem crP_append (pre : List (List UInt8)) (x : List UInt8) : crP (pre ++ [x]) = crP pre ++ x ++ [13, 10] := by simp [crP]

theorem lines_crP : ∀ (xs : List (List UInt8)), (∀ y ∈ xs, fine y) → linesP (crP xs) = xs
  | [], _ => rfl
  | x :: xs, h => by
    have e : crP (x :: xs) = (x ++ [13]) ++ 10 :: crP xs := by simp [crP]
    obtain ⟨h1, h2⟩ := h x (by simp)
    rw [e, linesP_cons _ _ (by simp [h1]), trimCR_add, lines_crP xs fun y hy => h y (by simp [hy])]

/-- The last LF is missing behind a line that is not empty. -/
theorem lines_cut : ∀ (xs : List (List UInt8)), (∀ y ∈ xs, fine y) → (h : xs ≠ []) → xs.getLast h ≠ [] → linesP ((unP xs).take ((unP xs).length - 1)) = xs
  | [x], hf, _, hl => by
    have e : unP [x] = x ++ [10] := by simp [unP]
    have e2 : (unP [x]).take ((unP [x]).length - 1) = x := by rw [e]; simp
    rw [e2, linesP_last x (by simpa using hl) (hf x (by simp)).1]
  | x :: y :: xs, hf, _, hl => by
    have e : unP (x :: y :: xs) = x ++ 10 :: unP (y :: xs) := by simp [unP]
    have hp : 0 < (unP (y :: xs)).length := by simp [unP]; omega
    have e2 : (unP (x :: y :: xs)).take ((unP (x :: y :: xs)).length - 1) = x ++ 10 :: (unP (y :: xs)).take ((unP (y :: xs)).length - 1) := by
      rw [e]
      have hlen : (x ++ 10 :: unP (y :: xs)).length - 1 = x.length + ((unP (y :: xs)).length - 1 + 1) := by
        simp only [List.length_append, List.length_cons]; omega
      rw [hlen, List.take_length_add_append]
      rfl
    obtain ⟨h1, h2⟩ := hf x (by simp)
    rw [e2, linesP_cons _ _ h1, h2, lines_cut (y :: xs) (fun z hz => hf z (by simp at hz ⊢; right; exact hz)) (by simp) (by simpa using hl)]

end Go.Proofs.Ythnpedkinelemaa
