/- The reader's functions read back what the writer's functions wrote: plain Lean. -/
import Derived.Test.YtonfkmoocgpleaaDoorElems
import Derived.Test.YtonfkmoocgpleaaDoorLists
namespace Go.Proofs.YtonfkmoocgpleaaDoor

theorem u8_digit (d : Nat) (h : d < 10) : (UInt8.ofNat (48 + d)).toNat = 48 + d := by
  rw [UInt8.toNat_ofNat']; omega
theorem dec_all (u : Nat) : ∀ c ∈ Lib.decDigits u, dg c = true := by
  induction u using Nat.strongRecOn with
  | _ u ih =>
    intro c hc
    rw [Lib.decDigits] at hc
    split at hc
    · rename_i h
      simp only [List.mem_singleton] at hc
      subst hc
      rw [dg_iff, u8_digit u h]; omega
    · rename_i h
      rcases List.mem_append.1 hc with h1 | h1
      · exact ih (u / 10) (by omega) c h1
      · simp only [List.mem_singleton] at h1
        subst h1
        rw [dg_iff, u8_digit (u % 10) (by omega)]; omega
theorem dec_val (u : Nat) : val (Lib.decDigits u) = u := by
  induction u using Nat.strongRecOn with
  | _ u ih =>
    rw [Lib.decDigits]
    split
    · rename_i h
      show 10 * 0 + ((UInt8.ofNat (48 + u)).toNat - 48) = u
      rw [u8_digit u h]; omega
    · rename_i h
      rw [val_snoc, ih (u / 10) (by omega), u8_digit (u % 10) (by omega)]; omega
theorem dec_ne (u : Nat) : Lib.decDigits u ≠ [] := by
  have := Lib.nDigits_pos u
  rw [← Lib.decDigits_length] at this
  exact List.length_pos_iff.1 this
theorem head_app {l : List UInt8} (m : List UInt8) (h : l ≠ []) : (l ++ m).head? = l.head? := by
  cases l with
  | nil => exact absurd rfl h
  | cons a l => rfl
theorem dec_head (u : Nat) : 1 ≤ u → (Lib.decDigits u).head? ≠ some 48 := by
  induction u using Nat.strongRecOn with
  | _ u ih =>
    intro h1
    rw [Lib.decDigits]
    split
    · rename_i h
      simp only [List.head?_cons, ne_eq, Option.some.injEq]
      intro e
      have := congrArg UInt8.toNat e
      rw [u8_digit u h] at this
      have h48 : (48 : UInt8).toNat = 48 := rfl
      omega
    · rename_i h
      rw [head_app _ (dec_ne _)]
      exact ih (u / 10) (by omega) (by omega)
theorem dec_two (u : Nat) : 2 ≤ (Lib.decDigits u).length → 1 ≤ u := by
  intro h
  rcases Nat.eq_zero_or_pos u with rfl | h1
  · rw [Lib.decDigits_length, Lib.nDigits_small (by omega)] at h; omega
  · exact h1

theorem dig_back (limit u : Nat) (c : UInt8) (rest : List UInt8) (h : u ≤ limit) (hc : dg c = false) : digP limit (Lib.decDigits u ++ c :: rest) = some (u, c :: rest) := by
  have ht : (Lib.decDigits u ++ c :: rest).takeWhile dg = Lib.decDigits u := by
    rw [List.takeWhile_append_of_pos (dec_all u), List.takeWhile_cons_of_neg (by simp [hc]), List.append_nil]
  have hd : (Lib.decDigits u ++ c :: rest).dropWhile dg = c :: rest := by
    rw [List.dropWhile_append_of_pos (dec_all u), List.dropWhile_cons_of_neg (by simp [hc])]
  unfold digP
  rw [ht, hd, dec_val, if_neg]
  rintro (h1 | ⟨h1, h2⟩ | h1)
  · exact dec_ne u h1
  · rw [head_app _ (dec_ne _)] at h2
    exact dec_head u (dec_two u h1) h2
  · omega
theorem num_back (limit u : Nat) (c : UInt8) (rest : List UInt8) (h : u ≤ limit) (hc : dg c = false) : numP limit c (Lib.decDigits u ++ c :: rest) = some (u, rest) := by
  unfold numP
  rw [dig_back limit u c rest h hc]
  simp
theorem dec_first (u : Nat) (l : List UInt8) (t : List UInt8) : Lib.decDigits u ++ l ≠ 45 :: t := by
  intro e
  obtain ⟨a, m, hm⟩ := List.exists_cons_of_ne_nil (dec_ne u)
  have ha : dg a = true := dec_all u a (by rw [hm]; simp)
  rw [hm] at e
  have : a = 45 := (List.cons.inj e).1
  subst this
  exact absurd ha (by decide)
theorem int_pos {l : List UInt8} (h : ∀ t, l ≠ 45 :: t) : intP l = (numP 9223372036854775807 59 l).map fun x => ((x.1 : Int), x.2) := by
  unfold intP
  split
  · rename_i t; exact absurd rfl (h t)
  · rfl
theorem int_back (n : Int) (rest : List UInt8) (h0 : -9223372036854775808 ≤ n) (h1 : n ≤ 9223372036854775807) : intP (encInt n ++ rest) = some (n, rest) := by
  unfold encInt
  rcases Int.lt_or_le n 0 with h | h
  · obtain ⟨u, rfl⟩ : ∃ u : Nat, n = -(u : Int) := ⟨n.natAbs, by omega⟩
    rw [Lib.itoa_neg u (by omega), List.cons_append, List.cons_append, List.append_assoc]
    show (match numP 9223372036854775808 59 (Lib.decDigits u ++ 59 :: rest) with
      | some (v, rest) => if v = 0 then none else some (-(v : Int), rest)
      | none => none) = _
    rw [num_back _ u 59 rest (by omega) (by decide)]
    simp only
    rw [if_neg (by omega)]
  · obtain ⟨u, rfl⟩ : ∃ u : Nat, n = (u : Int) := ⟨n.toNat, by omega⟩
    rw [Lib.itoa_nonneg, List.append_assoc, int_pos (dec_first u _)]
    show ((numP 9223372036854775807 59 (Lib.decDigits u ++ 59 :: rest)).map _) = _
    rw [num_back _ u 59 rest (by omega) (by decide)]
    rfl
theorem pos_back (n : Nat) (rest : List UInt8) (h1 : n ≤ 9223372036854775807) : numP 9223372036854775807 59 (encInt n ++ rest) = some (n, rest) := by
  unfold encInt
  rw [Lib.itoa_nonneg, List.append_assoc]
  exact num_back _ n 59 rest h1 (by decide)
theorem text_back (s : ByteArray) (rest : List UInt8) (h : s.size ≤ 9223372036854775807) : textP (encS s ++ rest) = some (s, rest) := by
  have hl : s.data.toList.length = s.size := rfl
  have e : encS s ++ rest = Lib.decDigits s.size ++ 58 :: (s.data.toList ++ 44 :: rest) := by
    unfold encS encText
    rw [hl, Lib.itoa_nonneg]
    simp
  unfold textP
  rw [e, num_back _ s.size 58 _ h (by decide)]
  simp only
  rw [if_neg (by rw [List.length_append, hl]; omega), ← hl, List.drop_left, List.take_left]
  simp only [if_true]
theorem elems_back {α : Type} (one : List UInt8 → Option (α × List UInt8)) (enc : α → List UInt8) : ∀ (xs : List α) (rest : List UInt8), (∀ x ∈ xs, ∀ r, one (enc x ++ r) = some (x, r)) → elemsP one xs.length ((xs.map enc).flatten ++ rest) = some (xs, rest)
  | [], rest, _ => rfl
  | x :: xs, rest, h => by
    have h1 := h x (by simp) ((xs.map enc).flatten ++ rest)
    have h2 := elems_back one enc xs rest (fun y hy => h y (by simp [hy]))
    rw [List.length_cons, elemsP, List.map_cons, List.flatten_cons, List.append_assoc, h1]
    simp only [h2, Option.map_some]
theorem list_back {α : Type} (one : List UInt8 → Option (α × List UInt8)) (enc : α → List UInt8) (xs : List α) (rest : List UInt8) (h : ∀ x ∈ xs, ∀ r, one (enc x ++ r) = some (x, r)) (hl : xs.length ≤ 9223372036854775807) : listP one (encList enc xs ++ rest) = some (xs, rest) := by
  have e : encList enc xs ++ rest = Lib.decDigits xs.length ++ 91 :: ((xs.map enc).flatten ++ 93 :: rest) := by
    unfold encList
    rw [Lib.itoa_nonneg]
    simp
  unfold listP
  rw [e, num_back _ xs.length 91 _ hl (by decide)]
  simp only
  rw [elems_back one enc xs _ h, close_yes]
theorem ints_back (xs : List Int) (rest : List UInt8) (h : ∀ x ∈ xs, -9223372036854775808 ≤ x ∧ x ≤ 9223372036854775807) (hl : xs.length ≤ 9223372036854775807) : listP intP (encList encInt xs ++ rest) = some (xs, rest) :=
  list_back intP encInt xs rest (fun x hx r => int_back x r (h x hx).1 (h x hx).2) hl
theorem texts_back (xs : List ByteArray) (rest : List UInt8) (h : ∀ x ∈ xs, x.size ≤ 9223372036854775807) (hl : xs.length ≤ 9223372036854775807) : listP textP (encList encS xs ++ rest) = some (xs, rest) :=
  list_back textP encS xs rest (fun x hx r => text_back x r (h x hx)) hl
end Go.Proofs.YtonfkmoocgpleaaDoor
