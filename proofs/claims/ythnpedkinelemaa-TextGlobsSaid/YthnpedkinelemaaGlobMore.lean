/- What the law TextGlobs asks of patterns, in plain Lean. -/
import Derived.Test.YthnpedkinelemaaGlob
import Derived.Test.YthnpedkinelemaaSame
namespace Go.Proofs.Ythnpedkinelemaa

theorem extract_tail (s : ByteArray) (c : UInt8) (r : List UInt8) (h : s.data.toList = c :: r) : (s.extract 1 s.size).data.toList = r := by
  rw [Lib.extract_data, h]
  simp only [List.drop_succ_cons, List.drop_zero]
  apply List.take_of_length_le
  have : s.size = (c :: r).length := by rw [← h]; rfl
  simp only [List.length_cons] at this; omega
theorem extract_head (s : ByteArray) (c : UInt8) (r : List UInt8) (h : s.data.toList = c :: r) : (s.extract 0 1).data.toList = [c] := by
  rw [Lib.extract_data, h]; simp

theorem globB_nil (P S : ByteArray) (h : P.data.toList = []) : globB P S = S.data.toList.isEmpty := by unfold globB; rw [h, glob_nil]
theorem globB_star_nil (P S : ByteArray) (p : List UInt8) (h : P.data.toList = 42 :: p) (hS : S.data.toList = []) : globB (P.extract 1 P.size) S = globB P S := by
  unfold globB; rw [extract_tail P _ _ h, h, hS, glob_star_nil]
theorem globB_star_cons (P S : ByteArray) (p : List UInt8) (c : UInt8) (r : List UInt8) (h : P.data.toList = 42 :: p) (hS : S.data.toList = c :: r) : globB P S = (globB (P.extract 1 P.size) S || globB P (S.extract 1 S.size)) := by
  unfold globB; rw [extract_tail P _ _ h, extract_tail S _ _ hS, h, hS, glob_star_cons]
theorem globB_other_nil (P S : ByteArray) (a : UInt8) (p : List UInt8) (h : P.data.toList = a :: p) (ha : a ≠ 42) (hS : S.data.toList = []) : globB P S = false := by
  unfold globB; rw [h, hS, glob_other_nil _ _ _ ha]
theorem globB_other_cons (P S : ByteArray) (a : UInt8) (p : List UInt8) (c : UInt8) (r : List UInt8) (h : P.data.toList = a :: p) (ha : a ≠ 42) (hS : S.data.toList = c :: r) : globB P S = (mtB a c && globB (P.extract 1 P.size) (S.extract 1 S.size)) := by
  unfold globB; rw [extract_tail P _ _ h, extract_tail S _ _ hS, h, hS, glob_other_cons _ _ _ _ _ ha]
theorem sameB_heads (P S : ByteArray) (a : UInt8) (p : List UInt8) (c : UInt8) (r : List UInt8) (h : P.data.toList = a :: p) (hS : S.data.toList = c :: r) : sameB (P.extract 0 1) (S.extract 0 1) = (lowB a == lowB c) := by
  unfold sameB; rw [extract_head P _ _ h, extract_head S _ _ hS]
  simp only [List.map_cons, List.map_nil, List.cons.injEq, and_true]
  rw [Bool.eq_iff_iff, decide_eq_true_iff, beq_iff_eq]

theorem glob_star_all (mt : UInt8 → UInt8 → Bool) : ∀ s : List UInt8, globP mt [42] s = true
  | [] => by rw [glob_star_nil, glob_nil]; rfl
  | c :: r => by rw [glob_star_cons, glob_star_all mt r, Bool.or_true]
theorem globB_star_all (S : ByteArray) : globB ⟨#[42]⟩ S = true := glob_star_all mtB _

/-- No star and no question mark. -/
def plainB (P : List UInt8) : Bool := P.all fun c => c != 42 && c != 63

theorem glob_plain : ∀ (P S : List UInt8), plainB P = true → globP mtB P S = decide (P.map lowB = S.map lowB)
  | [], S, _ => by rw [glob_nil]; cases S <;> simp
  | a :: p, [], h => by
    simp only [plainB, List.all_cons, Bool.and_eq_true, bne_iff_ne] at h
    rw [glob_other_nil _ _ _ h.1.1]; simp
  | a :: p, c :: r, h => by
    simp only [plainB, List.all_cons, Bool.and_eq_true, bne_iff_ne] at h
    rw [glob_other_cons _ _ _ _ _ h.1.1, glob_plain p r (by simpa [plainB] using h.2)]
    have h63 : (a == 63) = false := by rw [beq_eq_false_iff_ne]; exact h.1.2
    simp only [mtB, h63, Bool.false_or, List.map_cons, List.cons.injEq]
    rw [Bool.eq_iff_iff, Bool.and_eq_true, decide_eq_true_iff, decide_eq_true_iff, beq_iff_eq]

theorem globB_plain (P S : ByteArray) (h : plainB P.data.toList = true) : globB P S = sameB P S := glob_plain _ _ h

theorem glob_then_star (mt : UInt8 → UInt8 → Bool) : ∀ (n : Nat) (P S U : List UInt8), P.length + S.length ≤ n → globP mt P S = true → globP mt (P ++ [42]) (S ++ U) = true
  | n, [], S, U, _, h => by
    rw [glob_nil, List.isEmpty_iff] at h
    subst h
    exact glob_star_all mt _
  | 0, a :: p, S, U, hn, _ => by simp at hn
  | n + 1, a :: p, [], U, hn, h => by
    by_cases ha : a = 42
    · subst ha
      rw [glob_star_nil] at h
      have := glob_then_star mt n p [] U (by simp at hn ⊢; omega) h
      exact glob_star_zero mt _ _ this
    · rw [glob_other_nil _ _ _ ha] at h; cases h
  | n + 1, a :: p, c :: r, U, hn, h => by
    by_cases ha : a = 42
    · subst ha
      rw [glob_star_cons, Bool.or_eq_true] at h
      rcases h with h | h
      · exact glob_star_zero mt _ _ (glob_then_star mt n p (c :: r) U (by simp at hn ⊢; omega) h)
      · have := glob_then_star mt n (42 :: p) r U (by simp at hn ⊢; omega) h
        simp only [List.cons_append] at this ⊢
        rw [glob_star_cons, this, Bool.or_true]
    · rw [glob_other_cons _ _ _ _ _ ha, Bool.and_eq_true] at h
      simp only [List.cons_append]
      rw [glob_other_cons _ _ _ _ _ ha, h.1, glob_then_star mt n p r U (by simp at hn ⊢; omega) h.2]; rfl

theorem globB_wrapped (P S Q T : ByteArray) (hQ : Q.data.toList = 42 :: (P.data.toList ++ [42])) (hT : T.data.toList = 120 :: (S.data.toList ++ [121])) (h : globB P S = true) : globB Q T = true := by
  unfold globB at h ⊢
  rw [hQ, hT, glob_star_cons]
  have h1 := glob_then_star mtB _ P.data.toList S.data.toList [121] (Nat.le_refl _) h
  rw [glob_star_zero mtB _ _ h1, Bool.or_true]
end Go.Proofs.Ythnpedkinelemaa
