/- Number, at the two strings of the small examples: all digits; a byte that is none at the front. -/
import Derived.Test.YthnpedkinelemaaTrim
namespace Go.Proofs.Ythnpedkinelemaa
open Go.RowKit

theorem ret_pair {a b : Int} {o : Bool} (h : a = b) : Ending.returned (.tuple #[.int .i64 a, .bool o]) = .returned (.tuple #[.int .i64 b, .bool o]) := by rw [h]

def numL (l : List UInt8) : Int := l.foldl (fun n c => 10 * n + ((c.toNat : Int) - 48)) 0
theorem numL_snoc (l : List UInt8) (c : UInt8) : numL (l ++ [c]) = 10 * numL l + ((c.toNat : Int) - 48) := by unfold numL; rw [List.foldl_append]; rfl
theorem take_snoc (s : ByteArray) (k : Nat) (h : k < s.size) : s.data.toList.take (k + 1) = s.data.toList.take k ++ [s[k]] := by
  rw [List.take_succ_eq_append_getElem (by simpa using h)]; rfl

theorem Number_yes (s : ByteArray) (w : World) (h1 : 1 ≤ s.size) (h15 : s.size ≤ 15) (hd : Hid (∀ j, ∀ h : j < s.size, 48 ≤ s[j].toNat ∧ s[j].toNat ≤ 57)) :
    Calls Try.prog 19 #[.string s] w fun e w' => e = .returned (.tuple #[.int .i64 (numL s.data.toList), .bool true]) ∧ w = w' := by
  go_enter Try.func19, Try.ntmps19
  go_wp2
  go_loop [4, 16] (fun n i => ∃ (k : Nat) (v : Int), k ≤ s.size ∧ i = .int .i64 k ∧ n = .int .i64 v ∧ Hid (v = numL (s.data.toList.take k)) ∧ 0 ≤ v ∧ v < 10 ^ k) (fun _ i => s.size - (intOf i).toNat)
  case atStart => exact ⟨0, 0, Nat.zero_le _, rfl, rfl, rfl, by omega, by simp⟩
  case round =>
    obtain ⟨k, v, hk, rfl, rfl, hv, hv0, hvb⟩ := hrel
    by_cases hlt : k < s.size
    · obtain ⟨d1, d2⟩ := hd k hlt
      have e1 : (48 : Int) ≤ (s[k].toNat : Int) := by omega
      have e2 : (s[k].toNat : Int) ≤ 57 := by omega
      have hpow : (10 : Int) ^ k ≤ 100000000000000 := by
        have : (10 : Int) ^ k ≤ 10 ^ 14 := by exact_mod_cast Nat.pow_le_pow_right (by omega) (show k ≤ 14 by omega)
        omega
      have hb1 : v < 100000000000000 := by omega
      have HB : Hid (10 * v + ((s[k].toNat : Int) - 48) < 10 ^ (k + 1)) := by show _ < _; rw [Int.pow_succ]; omega
      have hs := numL_snoc (s.data.toList.take k) s[k]
      rw [← take_snoc s k hlt] at hs
      have HS := Lib.hid hs
      clear hs hpow hvb
      go_wp2
      go_round
      case rel => exact ⟨k + 1, _, by omega, by go_num, rfl, by show _ = _; rw [HS.out, ← hv.out], by omega, HB.out⟩
      case measure => simp [intOf]; omega
    · have HV : Hid (v = numL s.data.toList) := by
        have hv' := hv.out
        rw [List.take_of_length_le (by simp; omega)] at hv'
        exact hv'
      clear hv hvb
      go_wp2
      go_ret2
      exact ⟨ret_pair HV.out, rfl⟩

theorem Number_no (s : ByteArray) (w : World) (h1 : 1 ≤ s.size) (h15 : s.size ≤ 15) (hd : s[0].toNat < 48) :
    Calls Try.prog 19 #[.string s] w fun e w' => e = .returned (.tuple #[.int .i64 0, .bool false]) ∧ w = w' := by
  have e1 : (s[0].toNat : Int) < 48 := by omega
  go_enter Try.func19, Try.ntmps19
  go_wp2
  go_loop [4, 16] (fun n i => n = .int .i64 0 ∧ i = .int .i64 0) (fun _ _ => 0)
  case atStart => exact ⟨rfl, rfl⟩
  case round =>
    obtain ⟨rfl, rfl⟩ := hrel
    go_wp2
    go_ret2
    exact ⟨rfl, rfl⟩

theorem Number_007 (w : World) : Calls Try.prog 19 #[.string ⟨#[48, 48, 55]⟩] w fun e w' => e = .returned (.tuple #[.int .i64 7, .bool true]) ∧ w = w' :=
  Number_yes ⟨#[48, 48, 55]⟩ w (by decide) (by decide) (by
    intro j h
    match j, h with
    | 0, _ => exact (by decide : 48 ≤ UInt8.toNat 48 ∧ UInt8.toNat 48 ≤ 57)
    | 1, _ => exact (by decide : 48 ≤ UInt8.toNat 48 ∧ UInt8.toNat 48 ≤ 57)
    | 2, _ => exact (by decide : 48 ≤ UInt8.toNat 55 ∧ UInt8.toNat 55 ≤ 57)
    | j + 3, h => exact absurd h (by show ¬ j + 3 < 3; omega))
theorem Number_neg (w : World) : Calls Try.prog 19 #[.string ⟨#[45, 49]⟩] w fun e w' => e = .returned (.tuple #[.int .i64 0, .bool false]) ∧ w = w' :=
  Number_no ⟨#[45, 49]⟩ w (by decide) (by decide) (by decide)
end Go.Proofs.Ythnpedkinelemaa
