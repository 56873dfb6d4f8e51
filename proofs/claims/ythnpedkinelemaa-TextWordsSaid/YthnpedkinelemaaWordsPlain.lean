/- Words, in plain Lean: no program here. -/
namespace Go.Proofs.Ythnpedkinelemaa

section
variable (p : UInt8 → Bool)

/-- Without the bytes at both ends that p says yes to. -/
def trimP (l : List UInt8) : List UInt8 := ((l.dropWhile p).reverse.dropWhile p).reverse

/-- The words of a list of bytes: what p says no to, in runs. 'n' bounds the rounds. -/
def wordsN : Nat → List UInt8 → List (List UInt8)
  | 0, _ => []
  | n + 1, l =>
    match l.dropWhile p with
    | [] => []
    | c :: r => (c :: r.takeWhile (fun x => !p x)) :: wordsN n (r.dropWhile (fun x => !p x))
def wordsP (l : List UInt8) : List (List UInt8) := wordsN p l.length l
end

theorem length_dropWhile_le (q : UInt8 → Bool) (l : List UInt8) : (l.dropWhile q).length ≤ l.length := by
  induction l with
  | nil => simp
  | cons c r ih => rw [List.dropWhile_cons]; split <;> simp <;> omega

theorem wordsN_enough (p : UInt8 → Bool) : ∀ (n m : Nat) (l : List UInt8), l.length ≤ n → l.length ≤ m → wordsN p n l = wordsN p m l := by
  intro n
  induction n with
  | zero =>
    intro m l h1 h2
    have : l = [] := List.eq_nil_of_length_eq_zero (by omega)
    subst this
    cases m <;> simp [wordsN]
  | succ n ih =>
    intro m l h1 h2
    cases m with
    | zero =>
      have : l = [] := List.eq_nil_of_length_eq_zero (by omega)
      subst this
      simp [wordsN]
    | succ m =>
      unfold wordsN
      have hl := length_dropWhile_le p l
      cases hd : l.dropWhile p with
      | nil => rfl
      | cons c r =>
        rw [hd] at hl
        have h3 := length_dropWhile_le (fun x => !p x) r
        simp only [List.length_cons] at hl
        simp only [ih m (r.dropWhile fun x => !p x) (by omega) (by omega)]

theorem wordsP_nil (p : UInt8 → Bool) : wordsP p [] = [] := rfl
theorem wordsP_white (p : UInt8 → Bool) (c : UInt8) (r : List UInt8) (h : p c = true) : wordsP p (c :: r) = wordsP p r := by
  unfold wordsP
  rw [List.length_cons]
  have h1 : wordsN p (r.length + 1) (c :: r) = wordsN p (r.length + 1) r := by
    unfold wordsN
    rw [List.dropWhile_cons, if_pos h]
  rw [h1]
  exact wordsN_enough p _ _ _ (by omega) (Nat.le_refl _)
theorem wordsP_word (p : UInt8 → Bool) (c : UInt8) (r : List UInt8) (h : p c = false) : wordsP p (c :: r) = (c :: r.takeWhile (fun x => !p x)) :: wordsP p (r.dropWhile (fun x => !p x)) := by
  have h1 : wordsP p (c :: r) = (c :: r.takeWhile (fun x => !p x)) :: wordsN p r.length (r.dropWhile (fun x => !p x)) := by
    unfold wordsP
    rw [List.length_cons]
    show wordsN p (r.length + 1) (c :: r) = _
    rw [wordsN]
    rw [List.dropWhile_cons, if_neg (by rw [h]; simp)]
  rw [h1]
  congr 1
  exact wordsN_enough p _ _ _ (length_dropWhile_le _ _) (Nat.le_refl _)

theorem dropWhile_drop (p : UInt8 → Bool) : ∀ (l : List UInt8) (k : Nat), k ≤ l.length → (∀ j, j < k → p (l.getD j 0) = true) → (k = l.length ∨ p (l.getD k 0) = false) → l.dropWhile p = l.drop k
  | [], k, _, _, _ => by simp
  | c :: r, 0, _, _, h => by
    have : p c = false := by
      rcases h with h | h
      · simp at h
      · simpa using h
    rw [List.dropWhile_cons, if_neg (by rw [this]; simp)]; rfl
  | c :: r, k + 1, hk, hall, h => by
    have h0 : p c = true := by simpa using hall 0 (by omega)
    rw [List.dropWhile_cons, if_pos h0, List.drop_succ_cons]
    refine dropWhile_drop p r k (by simp at hk; omega) (fun j hj => ?_) ?_
    · have := hall (j + 1) (by omega); simpa using this
    · rcases h with h | h
      · left; simp at h; omega
      · right; simpa using h

theorem getD_lt (l : List UInt8) (j : Nat) (h : j < l.length) : l.getD j 0 = l[j] := by
  rw [List.getD_eq_getElem?_getD, List.getElem?_eq_getElem h]; rfl
theorem getD_reverse (l : List UInt8) (j : Nat) (h : j < l.length) : l.reverse.getD j 0 = l.getD (l.length - 1 - j) 0 := by
  rw [getD_lt _ _ (by simpa using h), getD_lt _ _ (by omega), List.getElem_reverse]
theorem getD_drop8 (l : List UInt8) (k j : Nat) : (l.drop k).getD j 0 = l.getD (k + j) 0 := by
  rw [List.getD_eq_getElem?_getD, List.getD_eq_getElem?_getD, List.getElem?_drop]

/-- What Trim's two loops find. -/
theorem trim_of (p : UInt8 → Bool) (l : List UInt8) (k u : Nat) (hk : k ≤ u) (hu : u ≤ l.length) (h1 : ∀ j, j < k → p (l.getD j 0) = true) (h2 : k = l.length ∨ p (l.getD k 0) = false)
    (h3 : ∀ j, u ≤ j → j < l.length → p (l.getD j 0) = true) (h4 : k = u ∨ p (l.getD (u - 1) 0) = false) : trimP p l = (l.drop k).take (u - k) := by
  unfold trimP
  rw [dropWhile_drop p l k (by omega) h1 h2]
  have hlen : (l.drop k).length = l.length - k := List.length_drop
  have e : (l.drop k).reverse.dropWhile p = (l.drop k).reverse.drop (l.length - u) := by
    refine dropWhile_drop p _ _ (by simp; omega) (fun j hj => ?_) ?_
    · rw [getD_reverse _ _ (by omega), getD_drop8, hlen]
      exact h3 _ (by omega) (by omega)
    · rcases h4 with h4 | h4
      · left; simp; omega
      · rcases Nat.lt_or_ge k u with hlt | hge
        · right
          rw [getD_reverse _ _ (by omega), getD_drop8, hlen]
          rw [show k + (l.length - k - 1 - (l.length - u)) = u - 1 by omega]
          exact h4
        · left; simp; omega
  rw [e, List.reverse_drop, List.reverse_reverse]
  congr 1
  simp; omega

theorem takeWhile_take (q : UInt8 → Bool) (r : List UInt8) (m : Nat) (h : r.dropWhile q = r.drop m) : r.takeWhile q = r.take m := by
  have h1 := List.takeWhile_append_dropWhile (p := q) (l := r)
  have h2 := List.take_append_drop m r
  rw [h] at h1
  exact List.append_cancel_right (h1.trans h2.symm)

/-- One word: it begins at k and ends ahead of j. -/
theorem words_step (p : UInt8 → Bool) (l : List UInt8) (k j : Nat) (hkj : k < j) (hj : j ≤ l.length) (hall : ∀ x, k ≤ x → x < j → p (l.getD x 0) = false) (hend : j = l.length ∨ p (l.getD j 0) = true) :
    wordsP p (l.drop k) = (l.drop k).take (j - k) :: wordsP p (l.drop j) := by
  have hk : k < l.length := by omega
  have hd : l.drop k = l.getD k 0 :: l.drop (k + 1) := by rw [List.drop_eq_getElem_cons hk, getD_lt l k hk]
  rw [hd, wordsP_word p _ _ (hall k (Nat.le_refl _) hkj)]
  have h1 : (l.drop (k + 1)).dropWhile (fun x => !p x) = (l.drop (k + 1)).drop (j - (k + 1)) := by
    refine dropWhile_drop (fun x => !p x) _ _ (by simp; omega) (fun x hx => ?_) ?_
    · rw [getD_drop8, hall (k + 1 + x) (by omega) (by omega)]; rfl
    · rcases hend with h | h
      · left; simp; omega
      · right; rw [getD_drop8, show k + 1 + (j - (k + 1)) = j by omega, h]; rfl
  rw [takeWhile_take _ _ _ h1, h1, List.drop_drop, show k + 1 + (j - (k + 1)) = j by omega]
  rw [show j - k = j - (k + 1) + 1 by omega, List.take_succ_cons]

theorem words_skip (p : UInt8 → Bool) (l : List UInt8) (k : Nat) (hk : k < l.length) (h : p (l.getD k 0) = true) : wordsP p (l.drop k) = wordsP p (l.drop (k + 1)) := by
  have hd : l.drop k = l.getD k 0 :: l.drop (k + 1) := by rw [List.drop_eq_getElem_cons hk, getD_lt l k hk]
  rw [hd, wordsP_white p _ _ h]

end Go.Proofs.Ythnpedkinelemaa
