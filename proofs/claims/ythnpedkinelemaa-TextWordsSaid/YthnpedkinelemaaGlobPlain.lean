/- Patterns, in plain Lean: the definition byte for byte, and that the walk with the last star alone finds the same. -/
import Derived.Test.YthnpedkinelemaaWordsPlain
namespace Go.Proofs.Ythnpedkinelemaa

section
variable (mt : UInt8 → UInt8 → Bool)

/-- What a pattern stands for: 42 is the star; mt says which byte stands for which. -/
def globP : List UInt8 → List UInt8 → Bool
  | [], s => s.isEmpty
  | a :: p, s =>
    if a = 42 then
      match s with
      | [] => globP p []
      | c :: r => globP p (c :: r) || globP (a :: p) r
    else
      match s with
      | [] => false
      | c :: r => mt a c && globP p r
termination_by p s => p.length + s.length

theorem glob_nil (s : List UInt8) : globP mt [] s = s.isEmpty := by rw [globP]
theorem glob_star_nil (p : List UInt8) : globP mt (42 :: p) [] = globP mt p [] := by rw [globP, if_pos rfl]
theorem glob_star_cons (p : List UInt8) (c : UInt8) (r : List UInt8) : globP mt (42 :: p) (c :: r) = (globP mt p (c :: r) || globP mt (42 :: p) r) := by rw [globP, if_pos rfl]
theorem glob_other_nil (a : UInt8) (p : List UInt8) (h : a ≠ 42) : globP mt (a :: p) [] = false := by rw [globP, if_neg h]
theorem glob_other_cons (a : UInt8) (p : List UInt8) (c : UInt8) (r : List UInt8) (h : a ≠ 42) : globP mt (a :: p) (c :: r) = (mt a c && globP mt p r) := by rw [globP, if_neg h]

/-- A star takes nothing. -/
theorem glob_star_zero (p s : List UInt8) (h : globP mt p s = true) : globP mt (42 :: p) s = true := by
  cases s with
  | nil => rw [glob_star_nil]; exact h
  | cons c r => rw [glob_star_cons, h, Bool.true_or]
/-- A star takes more. -/
theorem glob_star_more (p : List UInt8) : ∀ (s : List UInt8) (m : Nat), globP mt (42 :: p) (s.drop m) = true → globP mt (42 :: p) s = true
  | s, 0, h => by simpa using h
  | [], m + 1, h => by simpa using h
  | c :: r, m + 1, h => by
    rw [glob_star_cons, glob_star_more p r m (by simpa using h), Bool.or_true]
theorem glob_star_some (p : List UInt8) : ∀ (s : List UInt8), globP mt (42 :: p) s = true → ∃ m, m ≤ s.length ∧ globP mt p (s.drop m) = true
  | [], h => ⟨0, Nat.le_refl _, by rw [glob_star_nil] at h; simpa using h⟩
  | c :: r, h => by
    rw [glob_star_cons, Bool.or_eq_true] at h
    rcases h with h | h
    · exact ⟨0, by simp, by simpa using h⟩
    · obtain ⟨m, hm, h'⟩ := glob_star_some p r h
      exact ⟨m + 1, by simp; omega, by simpa using h'⟩

theorem drop_cons (l : List UInt8) (k : Nat) (h : k < l.length) : l.drop k = l.getD k 0 :: l.drop (k + 1) := by
  rw [List.drop_eq_getElem_cons h, getD_lt l k h]

/-- A run of k bytes of the pattern, none a star, each standing for the byte beside it. -/
theorem glob_run (P S : List UInt8) : ∀ (k a b : Nat), a + k ≤ P.length → b + k ≤ S.length → (∀ j, j < k → P.getD (a + j) 0 ≠ 42 ∧ mt (P.getD (a + j) 0) (S.getD (b + j) 0) = true) →
    globP mt (P.drop a) (S.drop b) = globP mt (P.drop (a + k)) (S.drop (b + k))
  | 0, a, b, _, _, _ => rfl
  | k + 1, a, b, ha, hb, h => by
    obtain ⟨h1, h2⟩ := h 0 (by omega)
    simp only [Nat.add_zero] at h1 h2
    rw [drop_cons P a (by omega), drop_cons S b (by omega), glob_other_cons _ _ _ _ _ h1, h2, Bool.true_and]
    rw [glob_run P S k (a + 1) (b + 1) (by omega) (by omega) (fun j hj => by
      have := h (j + 1) (by omega)
      rw [show a + 1 + j = a + (j + 1) by omega, show b + 1 + j = b + (j + 1) by omega]; exact this)]
    rw [show a + 1 + k = a + (k + 1) by omega, show b + 1 + k = b + (k + 1) by omega]

/-- k bytes of the pattern that are no stars take k bytes. -/
theorem glob_takes (P : List UInt8) : ∀ (k a : Nat) (U : List UInt8), a + k ≤ P.length → (∀ j, j < k → P.getD (a + j) 0 ≠ 42) → globP mt (P.drop a) U = true → k ≤ U.length ∧ globP mt (P.drop (a + k)) (U.drop k) = true
  | 0, a, U, _, _, h => ⟨Nat.zero_le _, by simpa using h⟩
  | k + 1, a, U, ha, hs, h => by
    have h1 := hs 0 (by omega)
    simp only [Nat.add_zero] at h1
    rw [drop_cons P a (by omega)] at h
    cases U with
    | nil => rw [glob_other_nil _ _ _ h1] at h; cases h
    | cons c r =>
      rw [glob_other_cons _ _ _ _ _ h1, Bool.and_eq_true] at h
      obtain ⟨e1, e2⟩ := glob_takes P k (a + 1) r (by omega) (fun j hj => by rw [show a + 1 + j = a + (j + 1) by omega]; exact hs (j + 1) (by omega)) h.2
      exact ⟨by simp; omega, by rw [show a + (k + 1) = a + 1 + k by omega]; simpa using e2⟩

/-- What holds at the head of Glob's loop. 'star' is one more than the place of the last star, 0 if there is none. -/
structure GInv (P S : List UInt8) (p i star mark : Nat) : Prop where
  hp : p ≤ P.length
  hi : i ≤ S.length
  hm : mark ≤ i
  none : star = 0 → mark = 0 ∧ globP mt P S = globP mt (P.drop p) (S.drop i)
  some : 0 < star → star ≤ p ∧ P.getD (star - 1) 0 = 42 ∧ globP mt P S = globP mt (P.drop (star - 1)) (S.drop mark) ∧ i - mark = p - star ∧
    ∀ j, j < p - star → P.getD (star + j) 0 ≠ 42 ∧ mt (P.getD (star + j) 0) (S.getD (mark + j) 0) = true

theorem ginv_start (P S : List UInt8) : GInv mt P S 0 0 0 0 := ⟨by omega, by omega, by omega, fun _ => ⟨rfl, rfl⟩, fun h => by omega⟩

/-- The pattern from the last star on, against what it may stand for. -/
theorem GInv.now {P S : List UInt8} {p i star mark : Nat} (h : GInv mt P S p i star mark) (hs : 0 < star) : globP mt (P.drop star) (S.drop mark) = globP mt (P.drop p) (S.drop i) := by
  obtain ⟨h1, _, _, h4, h5⟩ := h.some hs
  have := glob_run mt P S (p - star) star mark (by have := h.hp; omega) (by have := h.hi; have := h.hm; omega) h5
  rw [this, show star + (p - star) = p by omega, show mark + (p - star) = i by have := h.hm; omega]

/-- Another star: the one before it is settled. -/
theorem ginv_star {P S : List UInt8} {p i star mark : Nat} (h : GInv mt P S p i star mark) (hp : p < P.length) (hst : P.getD p 0 = 42) : GInv mt P S (p + 1) i (p + 1) i := by
  have hp' : P.drop p = 42 :: P.drop (p + 1) := by rw [drop_cons P p hp, hst]
  refine ⟨by omega, h.hi, by omega, fun h => by omega, fun _ => ⟨Nat.le_refl _, by simpa using hst, ?_, by omega, fun j hj => by omega⟩⟩
  rw [Nat.add_sub_cancel]
  rcases Nat.eq_zero_or_pos star with h0 | h0
  · exact (h.none h0).2
  · obtain ⟨h1, h2, h3, h4, h5⟩ := h.some h0
    have hs' : P.drop (star - 1) = 42 :: P.drop star := by
      rw [drop_cons P (star - 1) (by have := h.hp; omega), h2, show star - 1 + 1 = star by omega]
    rw [h3, hs', Bool.eq_iff_iff]
    constructor
    · intro hg
      obtain ⟨m, hm, hg'⟩ := glob_star_some mt _ _ hg
      rw [List.drop_drop] at hg'
      obtain ⟨e1, e2⟩ := glob_takes mt P (p - star) star _ (by omega) (fun j hj => (h5 j hj).1) hg'
      rw [show star + (p - star) = p by omega, List.drop_drop] at e2
      rw [hp'] at e2 ⊢
      refine glob_star_more mt _ _ m ?_
      rw [List.drop_drop, show i + m = mark + m + (p - star) by have := h.hm; omega]
      exact e2
    · intro hg
      exact glob_star_zero mt _ _ (by rw [h.now mt h0]; exact hg)

/-- A byte that stands for the next one. -/
theorem ginv_byte {P S : List UInt8} {p i star mark : Nat} (h : GInv mt P S p i star mark) (hp : p < P.length) (hi : i < S.length) (hst : P.getD p 0 ≠ 42) (hmt : mt (P.getD p 0) (S.getD i 0) = true) : GInv mt P S (p + 1) (i + 1) star mark := by
  refine ⟨by omega, by omega, by have := h.hm; omega, fun h0 => ⟨(h.none h0).1, ?_⟩, fun h0 => ?_⟩
  · rw [(h.none h0).2, drop_cons P p hp, drop_cons S i hi, glob_other_cons _ _ _ _ _ hst, hmt, Bool.true_and]
  · obtain ⟨h1, h2, h3, h4, h5⟩ := h.some h0
    refine ⟨by omega, h2, h3, by have := h.hm; omega, fun j hj => ?_⟩
    rcases Nat.lt_or_ge j (p - star) with hlt | hge
    · exact h5 j hlt
    · obtain rfl : j = p - star := by omega
      rw [show star + (p - star) = p by omega, show mark + (p - star) = i by have := h.hm; omega]
      exact ⟨hst, hmt⟩

/-- No way on. -/
theorem glob_stuck {P S : List UInt8} {p i : Nat} (hi : i < S.length) (hst : p < P.length → P.getD p 0 ≠ 42 ∧ mt (P.getD p 0) (S.getD i 0) = false) : globP mt (P.drop p) (S.drop i) = false := by
  rw [drop_cons S i hi]
  rcases Nat.lt_or_ge p P.length with hlt | hge
  · obtain ⟨h1, h2⟩ := hst hlt
    rw [drop_cons P p hlt, glob_other_cons _ _ _ _ _ h1, h2, Bool.false_and]
  · rw [List.drop_eq_nil_of_le hge, glob_nil]; rfl

/-- The star takes one byte more. -/
theorem ginv_back {P S : List UInt8} {p i star mark : Nat} (h : GInv mt P S p i star mark) (hi : i < S.length) (h0 : 0 < star) (hst : p < P.length → P.getD p 0 ≠ 42 ∧ mt (P.getD p 0) (S.getD i 0) = false) : GInv mt P S star (mark + 1) star (mark + 1) := by
  obtain ⟨h1, h2, h3, h4, h5⟩ := h.some h0
  have hm := h.hm
  have hs' : P.drop (star - 1) = 42 :: P.drop star := by
    rw [drop_cons P (star - 1) (by have := h.hp; omega), h2, show star - 1 + 1 = star by omega]
  refine ⟨by have := h.hp; omega, by omega, Nat.le_refl _, fun h => by omega, fun _ => ⟨Nat.le_refl _, h2, ?_, by omega, fun j hj => by omega⟩⟩
  have hf : globP mt (P.drop star) (S.drop mark) = false := by rw [h.now mt h0]; exact glob_stuck mt hi hst
  rw [drop_cons S mark (by omega)] at hf
  rw [h3, hs', drop_cons S mark (by omega), glob_star_cons, hf, Bool.false_or]

/-- All that is left are stars. -/
theorem glob_empty_iff : ∀ (P : List UInt8), globP mt P [] = true ↔ ∀ c ∈ P, c = 42
  | [] => by rw [glob_nil]; simp
  | a :: p => by
    by_cases h : a = 42
    · subst h; rw [glob_star_nil, glob_empty_iff p]; simp
    · rw [glob_other_nil _ _ _ h]; simp [h]

/-- The string is at its end: the pattern stands for it exactly if what is left of it stands for nothing. -/
theorem ginv_end {P S : List UInt8} {p star mark : Nat} (h : GInv mt P S p S.length star mark) : globP mt P S = globP mt (P.drop p) [] := by
  have hd : S.drop S.length = [] := List.drop_eq_nil_of_le (Nat.le_refl _)
  rcases Nat.eq_zero_or_pos star with h0 | h0
  · rw [(h.none h0).2, hd]
  · obtain ⟨h1, h2, h3, h4, h5⟩ := h.some h0
    have hn := h.now mt h0
    rw [hd] at hn
    have hs' : P.drop (star - 1) = 42 :: P.drop star := by
      rw [drop_cons P (star - 1) (by have := h.hp; omega), h2, show star - 1 + 1 = star by omega]
    rw [h3, hs', Bool.eq_iff_iff]
    constructor
    · intro hg
      obtain ⟨m, hm, hg'⟩ := glob_star_some mt _ _ hg
      rw [List.drop_drop] at hg'
      obtain ⟨e1, e2⟩ := glob_takes mt P (p - star) star _ (by have := h.hp; omega) (fun j hj => (h5 j hj).1) hg'
      have hmk := h.hm
      simp only [List.length_drop] at hm e1
      have hm0 : m = 0 := by omega
      subst hm0
      rw [← hn]; simpa using hg'
    · intro hg
      exact glob_star_zero mt _ _ (by rw [hn]; exact hg)
end
end Go.Proofs.Ythnpedkinelemaa
