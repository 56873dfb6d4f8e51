/- What the law TextWords asks of words, in plain Lean. -/
import Derived.Test.YthnpedkinelemaaWordsPlain
namespace Go.Proofs.Ythnpedkinelemaa

section
variable (p : UInt8 → Bool)

theorem filter_parts (q : UInt8 → Bool) : ∀ r : List UInt8, r.filter q = r.takeWhile q ++ (r.dropWhile q).filter q
  | [] => rfl
  | c :: r => by
    by_cases h : q c = true
    · simp [h, filter_parts q r]
    · simp [h]

theorem words_flat : ∀ (n : Nat) (l : List UInt8), l.length ≤ n → (wordsP p l).flatten = l.filter fun c => !p c
  | _, [], _ => rfl
  | 0, c :: r, h => by simp at h
  | n + 1, c :: r, h => by
    simp only [List.length_cons] at h
    by_cases hc : p c = true
    · rw [wordsP_white p c r hc, words_flat n r (by omega)]; simp [hc]
    · have hc0 : p c = false := by rw [Bool.eq_false_iff]; exact hc
      have hl := length_dropWhile_le (fun x => !p x) r
      rw [wordsP_word p c r hc0, List.flatten_cons, words_flat n _ (by omega)]
      rw [List.filter_cons_of_pos (by simp [hc0]), List.cons_append, filter_parts (fun x => !p x) r]

theorem words_each : ∀ (n : Nat) (l : List UInt8), l.length ≤ n → (wordsP p l).length ≤ l.length ∧ ∀ y ∈ wordsP p l, y ≠ [] ∧ (∀ c ∈ y, p c = false) ∧ y.length ≤ l.length
  | _, [], _ => by simp [wordsP_nil]
  | 0, c :: r, h => by simp at h
  | n + 1, c :: r, h => by
    simp only [List.length_cons] at h
    by_cases hc : p c = true
    · rw [wordsP_white p c r hc]
      obtain ⟨h1, h2⟩ := words_each n r (by omega)
      refine ⟨by simp only [List.length_cons]; omega, fun y hy => ?_⟩
      obtain ⟨a, b, d⟩ := h2 y hy
      exact ⟨a, b, by simp only [List.length_cons]; omega⟩
    · have hc0 : p c = false := by rw [Bool.eq_false_iff]; exact hc
      have hl := length_dropWhile_le (fun x => !p x) r
      rw [wordsP_word p c r hc0]
      obtain ⟨h1, h2⟩ := words_each n (r.dropWhile fun x => !p x) (by omega)
      refine ⟨by simp only [List.length_cons]; omega, fun y hy => ?_⟩
      rcases List.mem_cons.1 hy with rfl | hy
      · refine ⟨by simp, fun d hd => ?_, ?_⟩
        · rcases List.mem_cons.1 hd with rfl | hd
          · exact hc0
          · have := List.all_takeWhile (p := fun x => !p x) (l := r)
            rw [List.all_eq_true] at this
            simpa using this d hd
        · simp only [List.length_cons]
          have := (List.takeWhile_sublist (fun x => !p x) (l := r)).length_le
          omega
      · obtain ⟨a, b, d⟩ := h2 y hy
        exact ⟨a, b, by simp only [List.length_cons]; omega⟩

theorem parts_append (q : UInt8 → Bool) (c : UInt8) (b : List UInt8) (hc : q c = false) : ∀ a : List UInt8, (a ++ c :: b).takeWhile q = a.takeWhile q ∧ (a ++ c :: b).dropWhile q = a.dropWhile q ++ c :: b
  | [] => by simp [hc]
  | d :: a => by
    obtain ⟨h1, h2⟩ := parts_append q c b hc a
    by_cases h : q d = true
    · simp [h, h1, h2]
    · simp [h]

theorem words_split : ∀ (n : Nat) (a : List UInt8) (c : UInt8) (b : List UInt8), a.length ≤ n → p c = true → wordsP p (a ++ c :: b) = wordsP p a ++ wordsP p b
  | _, [], c, b, _, hc => by rw [List.nil_append, wordsP_white p c b hc, wordsP_nil]; rfl
  | 0, d :: a, c, b, h, _ => by simp at h
  | n + 1, d :: a, c, b, h, hc => by
    simp only [List.length_cons] at h
    by_cases hd : p d = true
    · rw [List.cons_append, wordsP_white p d _ hd, wordsP_white p d _ hd, words_split n a c b (by omega) hc]
    · have hd0 : p d = false := by rw [Bool.eq_false_iff]; exact hd
      have hl := length_dropWhile_le (fun x => !p x) a
      obtain ⟨h1, h2⟩ := parts_append (fun x => !p x) c b (by simp [hc]) a
      rw [List.cons_append, wordsP_word p d _ hd0, wordsP_word p d _ hd0, h1, h2, words_split n _ c b (by omega) hc]; rfl

theorem tw_all (q : UInt8 → Bool) : ∀ r : List UInt8, (∀ x ∈ r, q x = true) → r.takeWhile q = r ∧ r.dropWhile q = []
  | [], _ => ⟨rfl, rfl⟩
  | c :: r, h => by
    obtain ⟨h1, h2⟩ := tw_all q r fun x hx => h x (by simp [hx])
    have hc := h c (by simp)
    simp [hc, h1, h2]

theorem words_one (y : List UInt8) (h : y ≠ []) (hn : ∀ c ∈ y, p c = false) : wordsP p y = [y] := by
  cases y with
  | nil => exact absurd rfl h
  | cons c r =>
    have hr : ∀ x ∈ r, (!p x) = true := fun x hx => by simp [hn x (by simp [hx])]
    rw [wordsP_word p c r (hn c (by simp)), (tw_all (fun x => !p x) r hr).1, (tw_all (fun x => !p x) r hr).2, wordsP_nil]

theorem words_all_white : ∀ l : List UInt8, (∀ c ∈ l, p c = true) → wordsP p l = []
  | [], _ => rfl
  | c :: r, h => by rw [wordsP_white p c r (h c (by simp)), words_all_white r fun d hd => h d (by simp [hd])]

theorem words_dropWhile : ∀ l : List UInt8, wordsP p (l.dropWhile p) = wordsP p l
  | [] => rfl
  | c :: r => by
    by_cases h : p c = true
    · rw [List.dropWhile_cons_of_pos h, words_dropWhile r, wordsP_white p c r h]
    · rw [List.dropWhile_cons_of_neg h]

theorem words_behind (a ws : List UInt8) (h : ∀ c ∈ ws, p c = true) : wordsP p (a ++ ws) = wordsP p a := by
  cases ws with
  | nil => rw [List.append_nil]
  | cons c r => rw [words_split p _ a c r (Nat.le_refl _) (h c (by simp)), words_all_white p r fun d hd => h d (by simp [hd]), List.append_nil]

theorem words_trim (l : List UInt8) : wordsP p (trimP p l) = wordsP p l := by
  unfold trimP
  obtain ⟨m, hm⟩ : ∃ m, l.dropWhile p = m := ⟨_, rfl⟩
  rw [hm, ← words_dropWhile p l, hm]
  have e : m = (m.reverse.dropWhile p).reverse ++ (m.reverse.takeWhile p).reverse := by
    rw [← List.reverse_append, List.takeWhile_append_dropWhile, List.reverse_reverse]
  conv => rhs; rw [e]
  rw [words_behind]
  intro c hc
  have := List.all_takeWhile (p := p) (l := m.reverse)
  rw [List.all_eq_true] at this
  exact this c (by simpa using hc)

theorem dw_head : ∀ (l : List UInt8) (c : UInt8) (r : List UInt8), l.dropWhile p = c :: r → p c = false
  | [], c, r, h => by simp at h
  | d :: l, c, r, h => by
    by_cases hd : p d = true
    · rw [List.dropWhile_cons_of_pos hd] at h; exact dw_head l c r h
    · rw [List.dropWhile_cons_of_neg hd] at h
      cases h
      rw [Bool.eq_false_iff]; exact hd

theorem trim_ends (l m : List UInt8) (e : trimP p l = m) (h : m ≠ []) : p (m.head h) = false ∧ p (m.getLast h) = false := by
  constructor
  · have hpre : m <+: l.dropWhile p := by
      rw [← e]
      unfold trimP
      have := List.dropWhile_suffix p (l := (l.dropWhile p).reverse)
      have := List.reverse_prefix.2 this
      rwa [List.reverse_reverse] at this
    obtain ⟨t, ht⟩ := hpre
    cases m with
    | nil => exact absurd rfl h
    | cons c r => exact dw_head p l c (r ++ t) ht.symm
  · cases hm : (l.dropWhile p).reverse.dropWhile p with
    | nil => exact absurd (by rw [← e]; unfold trimP; rw [hm]; rfl) h
    | cons c r =>
      have := dw_head p _ c r hm
      have e2 : m = r.reverse ++ [c] := by rw [← e]; unfold trimP; rw [hm]; simp
      subst e2
      simpa using this

theorem trim_same (m : List UInt8) (h : ∀ hm : m ≠ [], p (m.head hm) = false ∧ p (m.getLast hm) = false) : trimP p m = m := by
  by_cases hm : m = []
  · subst hm; rfl
  obtain ⟨h1, h2⟩ := h hm
  have e1 : m.dropWhile p = m := by
    cases m with
    | nil => rfl
    | cons c r => exact List.dropWhile_cons_of_neg (by simpa using h1)
  unfold trimP
  rw [e1]
  have e2 : m.reverse.dropWhile p = m.reverse := by
    cases hr : m.reverse with
    | nil => rfl
    | cons c r =>
      have : m = r.reverse ++ [c] := by rw [← List.reverse_reverse m, hr]; simp
      subst this
      exact List.dropWhile_cons_of_neg (by simpa using h2)
  rw [e2, List.reverse_reverse]

theorem trim_trim (l : List UInt8) : trimP p (trimP p l) = trimP p l := trim_same p _ fun hm => trim_ends p l _ rfl hm
end
end Go.Proofs.Ythnpedkinelemaa
