/- An int and the byte behind it: read exactly where it was written. Plain Lean. -/
import Derived.Test.YtonfkmoocgpleaaDoorBackPlain
namespace Go.Proofs.YtonfkmoocgpleaaDoor

/-- An int and the byte c behind it. -/
def intC (c : UInt8) (l : List UInt8) : Option (Int × List UInt8) :=
  match l with
  | 45 :: t => match numP 9223372036854775808 c t with
    | some (v, rest) => if v = 0 then none else some (-(v : Int), rest)
    | none => none
  | _ => (numP 9223372036854775807 c l).map fun x => ((x.1 : Int), x.2)
theorem intC_59 (l : List UInt8) : intC 59 l = intP l := rfl
def I64R (n : Int) : Prop := -9223372036854775808 ≤ n ∧ n ≤ 9223372036854775807

theorem val_pos (l : List UInt8) (h : ∀ c ∈ l, dg c = true) (h0 : l ≠ []) (h1 : l.head? ≠ some 48) : 1 ≤ val l := by
  obtain ⟨c, t, rfl⟩ := List.exists_cons_of_ne_nil h0
  have hc := (dg_iff c).1 (h c (by simp))
  have hne : c.toNat ≠ 48 := fun e => h1 (by
    rw [List.head?_cons]
    congr 1
    exact UInt8.toNat_inj.1 e)
  have h2 := val_mono [c] t
  have h3 : val [c] = c.toNat - 48 := by simp [val]
  rw [h3] at h2
  have : [c] ++ t = c :: t := rfl
  rw [this] at h2
  omega
theorem u8_back (c : UInt8) (h : dg c = true) : UInt8.ofNat (48 + (c.toNat - 48)) = c := by
  obtain ⟨h1, h2⟩ := (dg_iff c).1 h
  rw [show 48 + (c.toNat - 48) = c.toNat by omega]
  exact UInt8.ofNat_toNat
theorem dec_snoc (q d : Nat) (hq : 1 ≤ q) (hd : d < 10) : Lib.decDigits (10 * q + d) = Lib.decDigits q ++ [UInt8.ofNat (48 + d)] := by
  rw [Lib.decDigits, dif_neg (by omega)]
  rw [show (10 * q + d) / 10 = q by omega, show (10 * q + d) % 10 = d by omega]

theorem dec_of_val_rev : ∀ (m : List UInt8), (∀ c ∈ m, dg c = true) → m ≠ [] → (2 ≤ m.length → m.reverse.head? ≠ some 48) → Lib.decDigits (val m.reverse) = m.reverse
  | [], _, h, _ => absurd rfl h
  | [c], h, _, _ => by
    have hc := h c (by simp)
    obtain ⟨h1, h2⟩ := (dg_iff c).1 hc
    have h3 : val [c].reverse = c.toNat - 48 := by simp [val]
    rw [h3, Lib.decDigits_one (by omega), u8_back c hc]; rfl
  | c :: d :: m, h, _, h0 => by
    have hc := h c (by simp)
    obtain ⟨h1, h2⟩ := (dg_iff c).1 hc
    have hh : (d :: m).reverse.head? ≠ some 48 := by
      have := h0 (by simp)
      rw [List.reverse_cons, head_app _ (by simp)] at this
      exact this
    have hall : ∀ x ∈ (d :: m).reverse, dg x = true := fun x hx => h x (by
      have := List.mem_reverse.1 hx
      exact List.mem_cons_of_mem _ this)
    have ih := dec_of_val_rev (d :: m) (fun x hx => h x (List.mem_cons_of_mem _ hx)) (by simp) (fun _ => hh)
    have hp := val_pos _ hall (by simp) hh
    rw [List.reverse_cons, val_snoc, dec_snoc _ _ hp (by omega), ih, u8_back c hc]
theorem dec_of_val (l : List UInt8) (h : ∀ c ∈ l, dg c = true) (h0 : l ≠ []) (h1 : 2 ≤ l.length → l.head? ≠ some 48) : Lib.decDigits (val l) = l := by
  have := dec_of_val_rev l.reverse (fun c hc => h c (List.mem_reverse.1 hc)) (by simpa using h0) (by simpa using h1)
  rwa [List.reverse_reverse] at this

theorem tw_mem (q : UInt8 → Bool) : ∀ (l : List UInt8), ∀ c ∈ l.takeWhile q, q c = true
  | [], c, h => by simp at h
  | a :: l, c, h => by
    by_cases ha : q a = true
    · rw [List.takeWhile_cons_of_pos ha] at h
      rcases List.mem_cons.1 h with rfl | h
      · exact ha
      · exact tw_mem q l c h
    · rw [List.takeWhile_cons_of_neg ha] at h; simp at h
theorem tw_head (q : UInt8 → Bool) (l : List UInt8) (h : l.takeWhile q ≠ []) : (l.takeWhile q).head? = l.head? := by
  cases l with
  | nil => rfl
  | cons a l =>
    by_cases ha : q a = true
    · rw [List.takeWhile_cons_of_pos ha]; rfl
    · rw [List.takeWhile_cons_of_neg ha] at h; exact absurd rfl h
theorem digP_some {limit : Nat} {l rest : List UInt8} {v : Nat} (h : digP limit l = some (v, rest)) : l = Lib.decDigits v ++ rest := by
  unfold digP at h
  split at h
  · cases h
  · rename_i hn
    have e := Option.some.inj h
    have e1 : val (l.takeWhile dg) = v := congrArg Prod.fst e
    have e2 : l.dropWhile dg = rest := congrArg Prod.snd e
    have hne : l.takeWhile dg ≠ [] := fun h0 => hn (.inl h0)
    rw [← e1, ← e2, dec_of_val _ (tw_mem dg l) hne (fun h2 => by
      rw [tw_head dg l hne]
      exact fun h3 => hn (.inr (.inl ⟨h2, h3⟩)))]
    exact (List.takeWhile_append_dropWhile (p := dg) (l := l)).symm
theorem numP_le {limit : Nat} {c : UInt8} {l rest : List UInt8} {v : Nat} (h : numP limit c l = some (v, rest)) : v ≤ limit := by
  unfold numP at h
  split at h
  · rename_i v' d t hd
    split at h
    · have := digP_le hd
      cases h; exact this
    · cases h
  · cases h
theorem numP_some {limit : Nat} {c : UInt8} {l rest : List UInt8} {v : Nat} (h : numP limit c l = some (v, rest)) : l = Lib.decDigits v ++ c :: rest := by
  unfold numP at h
  split at h
  · rename_i v' d t hd
    split at h
    · rename_i hdc
      have := digP_some hd
      cases h
      rw [this, hdc]
    · cases h
  · cases h
theorem intC_some {c : UInt8} {l rest : List UInt8} {v : Int} (h : intC c l = some (v, rest)) : l = Lib.itoa v ++ c :: rest ∧ I64R v := by
  unfold intC at h
  split at h
  · rename_i t
    split at h
    · rename_i u rest' hn
      split at h
      · cases h
      · have h1 := numP_some hn
        have h2 := numP_le hn
        cases h
        rw [Lib.itoa_neg u (by omega), h1]
        exact ⟨rfl, by unfold I64R; omega⟩
    · cases h
  · cases hn : numP 9223372036854775807 c l with
    | none => rw [hn] at h; cases h
    | some vr =>
      rw [hn] at h
      obtain ⟨u, rest'⟩ := vr
      have h1 := numP_some hn
      have h2 := numP_le hn
      cases h
      show l = Lib.itoa (u : Int) ++ c :: _ ∧ _
      rw [Lib.itoa_nonneg]
      exact ⟨h1, by unfold I64R; omega⟩
theorem intC_pos {c : UInt8} {l : List UInt8} (h : ∀ t, l ≠ 45 :: t) : intC c l = (numP 9223372036854775807 c l).map fun x => ((x.1 : Int), x.2) := by
  unfold intC
  split
  · rename_i t; exact absurd rfl (h t)
  · rfl
theorem intC_back (c : UInt8) (hc : dg c = false) (n : Int) (rest : List UInt8) (h : I64R n) : intC c (Lib.itoa n ++ c :: rest) = some (n, rest) := by
  obtain ⟨h0, h1⟩ := h
  rcases Int.lt_or_le n 0 with h | h
  · obtain ⟨u, rfl⟩ : ∃ u : Nat, n = -(u : Int) := ⟨n.natAbs, by omega⟩
    rw [Lib.itoa_neg u (by omega), List.cons_append]
    show (match numP 9223372036854775808 c (Lib.decDigits u ++ c :: rest) with
      | some (v, rest) => if v = 0 then none else some (-(v : Int), rest)
      | none => none) = _
    rw [num_back _ u c rest (by omega) hc]
    simp only
    rw [if_neg (by omega)]
  · obtain ⟨u, rfl⟩ : ∃ u : Nat, n = (u : Int) := ⟨n.toNat, by omega⟩
    rw [Lib.itoa_nonneg, intC_pos (dec_first u _), num_back _ u c rest (by omega) hc]
    rfl

/-- What 'number' hands on of what 'ahead' read. -/
theorem num_of_int (c : UInt8) (l : List UInt8) : numP 9223372036854775807 c l = match intC c l with
    | some (v, rest) => if v < 0 then none else some (v.toNat, rest)
    | none => none := by
  by_cases hm : ∃ t, l = 45 :: t
  · obtain ⟨t, rfl⟩ := hm
    have hn : numP 9223372036854775807 c (45 :: t) = none := by
      have : digP 9223372036854775807 (45 :: t) = none := by
        unfold digP
        rw [if_pos (.inl (List.takeWhile_cons_of_neg (by decide)))]
      unfold numP; rw [this]
    rw [hn]
    cases hi : intC c (45 :: t) with
    | none => rfl
    | some vr =>
      obtain ⟨v, rest⟩ := vr
      have h1 := (intC_some hi).1
      simp only
      rw [if_pos]
      rcases Int.lt_or_le v 0 with h | h
      · exact h
      · obtain ⟨u, rfl⟩ : ∃ u : Nat, v = (u : Int) := ⟨v.toNat, by omega⟩
        rw [Lib.itoa_nonneg] at h1
        exact absurd h1.symm (dec_first u _ t)
  · have hp : ∀ t, l ≠ 45 :: t := fun t e => hm ⟨t, e⟩
    rw [intC_pos hp]
    cases numP 9223372036854775807 c l with
    | none => rfl
    | some vr =>
      obtain ⟨u, rest⟩ := vr
      simp only [Option.map_some]
      rw [if_neg (by omega)]
      simp

/-- No byte of an int is the byte behind it. -/
theorem itoa_no (c : UInt8) (hc : dg c = false) (hm : c ≠ 45) (n : Int) : ∀ x ∈ Lib.itoa n, x ≠ c := by
  intro x hx e
  subst e
  rcases Int.lt_or_le n 0 with h | h
  · obtain ⟨u, rfl⟩ : ∃ u : Nat, n = -(u : Int) := ⟨n.natAbs, by omega⟩
    rw [Lib.itoa_neg u (by omega)] at hx
    rcases List.mem_cons.1 hx with h1 | h1
    · exact hm h1
    · rw [dec_all u x h1] at hc; cases hc
  · obtain ⟨u, rfl⟩ : ∃ u : Nat, n = (u : Int) := ⟨n.toNat, by omega⟩
    rw [Lib.itoa_nonneg] at hx
    rw [dec_all u x hx] at hc; cases hc
end Go.Proofs.YtonfkmoocgpleaaDoor
