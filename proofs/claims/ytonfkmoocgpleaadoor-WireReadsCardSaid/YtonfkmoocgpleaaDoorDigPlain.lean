/- What the reader's digits read, in plain Lean. -/
import Derived.Lib.ItoaNum
namespace Go.Proofs.YtonfkmoocgpleaaDoor

def dg (c : UInt8) : Bool := decide (48 ≤ c.toNat) && decide (c.toNat ≤ 57)
theorem dg_iff (c : UInt8) : dg c = true ↔ 48 ≤ c.toNat ∧ c.toNat ≤ 57 := by simp [dg]
def val (l : List UInt8) : Nat := l.foldl (fun n c => 10 * n + (c.toNat - 48)) 0
theorem val_snoc (l : List UInt8) (c : UInt8) : val (l ++ [c]) = 10 * val l + (c.toNat - 48) := by simp [val]
theorem val_mono (a b : List UInt8) : val a ≤ val (a ++ b) := by
  have gen : ∀ (b : List UInt8) (n : Nat), n ≤ b.foldl (fun n c => 10 * n + (c.toNat - 48)) n := by
    intro b
    induction b with
    | nil => intro n; exact Nat.le_refl _
    | cons c b ih => intro n; exact Nat.le_trans (show n ≤ 10 * n + (c.toNat - 48) by omega) (ih _)
  unfold val
  rw [List.foldl_append]
  exact gen b _

/-- The number at the head, at most limit, without a zero in front; and what follows its digits. -/
def digP (limit : Nat) (l : List UInt8) : Option (Nat × List UInt8) :=
  if l.takeWhile dg = [] ∨ (2 ≤ (l.takeWhile dg).length ∧ l.head? = some 48) ∨ limit < val (l.takeWhile dg) then none else some (val (l.takeWhile dg), l.dropWhile dg)

theorem tw_all (q : UInt8 → Bool) : ∀ (l : List UInt8) (k : Nat), k ≤ l.length → (∀ j (h : j < l.length), j < k → q l[j] = true) → ∃ t, l.takeWhile q = l.take k ++ t
  | l, 0, _, _ => ⟨l.takeWhile q, by simp⟩
  | [], k + 1, h, _ => by simp at h
  | c :: l, k + 1, h, hall => by
    have hc : q c = true := hall 0 (by simp) (by omega)
    obtain ⟨t, ht⟩ := tw_all q l k (by simpa using h) (fun j hj hk => hall (j + 1) (by simpa using hj) (by omega))
    exact ⟨t, by rw [List.takeWhile_cons_of_pos hc, ht]; rfl⟩
theorem tw_exact (q : UInt8 → Bool) : ∀ (l : List UInt8) (k : Nat), k ≤ l.length → (∀ j (h : j < l.length), j < k → q l[j] = true) → (∀ h : k < l.length, q l[k] = false) → l.takeWhile q = l.take k ∧ l.dropWhile q = l.drop k
  | [], k, h, _, _ => by simp
  | c :: l, 0, _, _, hend => by
    have : q c = false := hend (by simp)
    simp [this]
  | c :: l, k + 1, h, hall, hend => by
    have hc : q c = true := hall 0 (by simp) (by omega)
    obtain ⟨h1, h2⟩ := tw_exact q l k (by simpa using h) (fun j hj hk => hall (j + 1) (by simpa using hj) (by omega)) (fun h => hend (by simpa using h))
    simp [hc, h1, h2]

/-- The loop's state before the k-th byte. -/
structure DInv (limit : Nat) (l : List UInt8) (k : Nat) : Prop where
  le : k ≤ l.length
  all : ∀ j (h : j < l.length), j < k → dg l[j] = true
  small : val (l.take k) ≤ limit
  zero : 2 ≤ k → l.head? ≠ some 48

theorem DInv.start (limit : Nat) (l : List UInt8) : DInv limit l 0 := ⟨Nat.zero_le _, fun _ _ h => by omega, by simp [val], fun h => by omega⟩
theorem take_snoc (l : List UInt8) (k : Nat) (h : k < l.length) : l.take (k + 1) = l.take k ++ [l[k]] := List.take_succ_eq_append_getElem h
theorem DInv.val_next {limit : Nat} {l : List UInt8} {k : Nat} (_ : DInv limit l k) (h : k < l.length) : val (l.take (k + 1)) = 10 * val (l.take k) + (l[k].toNat - 48) := by rw [take_snoc l k h, val_snoc]
theorem DInv.next {limit : Nat} {l : List UInt8} {k : Nat} (i : DInv limit l k) (h : k < l.length) (hd : dg l[k] = true) (hs : val (l.take (k + 1)) ≤ limit) (hz : ¬ (k = 1 ∧ l.head? = some 48)) : DInv limit l (k + 1) :=
  ⟨h, fun j hj hk => by
    rcases Nat.lt_or_ge j k with h1 | h1
    · exact i.all j hj h1
    · have : j = k := by omega
      subst this; exact hd, hs, fun h2 => by
    rcases Nat.lt_or_ge k 2 with h3 | h3
    · have : k = 1 := by omega
      exact fun e => hz ⟨this, e⟩
    · exact i.zero h3⟩
theorem DInv.fail_zero {limit : Nat} {l : List UInt8} (i : DInv limit l 1) (h : 1 < l.length) (hd : dg l[1] = true) (hz : l.head? = some 48) : digP limit l = none := by
  obtain ⟨t, ht⟩ := tw_all dg l 2 h (fun j hj hk => by
    rcases Nat.lt_or_ge j 1 with h1 | h1
    · exact i.all j hj h1
    · have : j = 1 := by omega
      subst this; exact hd)
  unfold digP
  rw [if_pos (.inr (.inl ⟨by rw [ht, List.length_append, List.length_take]; omega, hz⟩))]
theorem DInv.fail_big {limit : Nat} {l : List UInt8} {k : Nat} (i : DInv limit l k) (h : k < l.length) (hd : dg l[k] = true) (hs : limit < val (l.take (k + 1))) : digP limit l = none := by
  obtain ⟨t, ht⟩ := tw_all dg l (k + 1) h (fun j hj hk => by
    rcases Nat.lt_or_ge j k with h1 | h1
    · exact i.all j hj h1
    · have : j = k := by omega
      subst this; exact hd)
  unfold digP
  rw [if_pos (.inr (.inr (by rw [ht]; exact Nat.lt_of_lt_of_le hs (val_mono _ _))))]
theorem DInv.done {limit : Nat} {l : List UInt8} {k : Nat} (i : DInv limit l k) (hend : ∀ h : k < l.length, dg l[k] = false) : digP limit l = if k = 0 then none else some (val (l.take k), l.drop k) := by
  obtain ⟨h1, h2⟩ := tw_exact dg l k i.le i.all hend
  unfold digP
  rw [h1, h2]
  by_cases h0 : k = 0
  · subst h0; simp
  · rw [if_neg, if_neg h0]
    rintro (h | ⟨h3, h4⟩ | h5)
    · have := congrArg List.length h
      rw [List.length_take, List.length_nil] at this
      have := i.le
      omega
    · rw [List.length_take] at h3
      exact i.zero (by omega) h4
    · have := i.small; omega
theorem digP_le {limit : Nat} {l rest : List UInt8} {v : Nat} (h : digP limit l = some (v, rest)) : v ≤ limit := by
  unfold digP at h
  split at h
  · cases h
  · rename_i hn
    have e : v = val (l.takeWhile dg) := by
      have := Option.some.inj h
      exact (congrArg Prod.fst this).symm
    subst e
    rcases Nat.lt_or_ge limit (val (l.takeWhile dg)) with h1 | h1
    · exact absurd (.inr (.inr h1)) hn
    · exact h1
theorem digP_rest {limit : Nat} {l rest : List UInt8} {v : Nat} (h : digP limit l = some (v, rest)) : rest = l.dropWhile dg := by
  unfold digP at h
  split at h
  · cases h
  · have := Option.some.inj h
    exact (congrArg Prod.snd this).symm
end Go.Proofs.YtonfkmoocgpleaaDoor
