/- The byte functions of package text: each is what its plain word says. -/
import Derived.Test.YthnpedkinelemaaChecked
import Derived.WalkKit
import Derived.WalkSpells
import Derived.WalkLawsBesides
import Derived.Outline
import Derived.Lib.Hide
import Derived.BigQuiet
namespace Go.Proofs.Ythnpedkinelemaa
open Go.RowKit

def lowB (c : UInt8) : UInt8 := if 65 ≤ c ∧ c ≤ 90 then c + 32 else c
def uppB (c : UInt8) : UInt8 := if 97 ≤ c ∧ c ≤ 122 then c - 32 else c
def whiteB (c : UInt8) : Bool := (c.toNat : Int) == 9 || (c.toNat : Int) == 10 || (c.toNat : Int) == 13 || (c.toNat : Int) == 32

theorem ret_int {k : IntKind} {a b : Int} (h : a = b) : Ending.returned (.int k a) = .returned (.int k b) := by rw [h]

theorem lower_any (c : UInt8) (w : World) :
    Calls Try.prog 25 #[.int .u8 c.toNat] w fun e w' => e = .returned (.int .u8 (lowB c).toNat) ∧ w = w' := by
  have hb : (c.toNat : Int) < 256 := by have := c.toNat_lt; omega
  have hb0 : (0 : Int) ≤ (c.toNat : Int) := by omega
  have hc : (lowB c).toNat = if 65 ≤ c.toNat ∧ c.toNat ≤ 90 then c.toNat + 32 else c.toNat := by
    unfold lowB
    simp only [UInt8.le_iff_toNat_le, show UInt8.toNat 65 = 65 from rfl, show UInt8.toNat 90 = 90 from rfl]
    by_cases h : 65 ≤ c.toNat ∧ c.toNat ≤ 90
    · rw [if_pos h, if_pos h, UInt8.toNat_add]; show (c.toNat + 32) % 256 = _; omega
    · rw [if_neg h, if_neg h]
  have HC := Lib.hid hc
  clear hc
  by_cases h1 : 65 ≤ (c.toNat : Int)
  · by_cases h2 : (c.toNat : Int) ≤ 90
    · go_enter Try.func25, Try.ntmps25
      go_wp2
      go_ret
      exact ⟨ret_int (by rw [HC.out, if_pos (by omega)]; omega), rfl⟩
    · go_enter Try.func25, Try.ntmps25
      go_wp2
      go_ret
      exact ⟨ret_int (by rw [HC.out, if_neg (by omega)]), rfl⟩
  · go_enter Try.func25, Try.ntmps25
    go_wp2
    go_ret
    exact ⟨ret_int (by rw [HC.out, if_neg (by omega)]), rfl⟩

theorem upper_any (c : UInt8) (w : World) :
    Calls Try.prog 30 #[.int .u8 c.toNat] w fun e w' => e = .returned (.int .u8 (uppB c).toNat) ∧ w = w' := by
  have hb : (c.toNat : Int) < 256 := by have := c.toNat_lt; omega
  have hb0 : (0 : Int) ≤ (c.toNat : Int) := by omega
  have hc : (uppB c).toNat = if 97 ≤ c.toNat ∧ c.toNat ≤ 122 then c.toNat - 32 else c.toNat := by
    unfold uppB
    simp only [UInt8.le_iff_toNat_le, show UInt8.toNat 97 = 97 from rfl, show UInt8.toNat 122 = 122 from rfl]
    by_cases h : 97 ≤ c.toNat ∧ c.toNat ≤ 122
    · rw [if_pos h, if_pos h, UInt8.toNat_sub]; show (2 ^ 8 - 32 + c.toNat) % 2 ^ 8 = _; omega
    · rw [if_neg h, if_neg h]
  have HC := Lib.hid hc
  clear hc
  by_cases h1 : 97 ≤ (c.toNat : Int)
  · by_cases h2 : (c.toNat : Int) ≤ 122
    · go_enter Try.func30, Try.ntmps30
      go_wp2
      go_ret
      exact ⟨ret_int (by rw [HC.out, if_pos (by omega)]; omega), rfl⟩
    · go_enter Try.func30, Try.ntmps30
      go_wp2
      go_ret
      exact ⟨ret_int (by rw [HC.out, if_neg (by omega)]), rfl⟩
  · go_enter Try.func30, Try.ntmps30
    go_wp2
    go_ret
    exact ⟨ret_int (by rw [HC.out, if_neg (by omega)]), rfl⟩

theorem ret_bool {a b : Bool} (h : a = b) : Ending.returned (.bool a) = .returned (.bool b) := by rw [h]

theorem white_any (c : UInt8) (w : World) :
    Calls Try.prog 27 #[.int .u8 c.toNat] w fun e w' => e = .returned (.bool (whiteB c)) ∧ w = w' := by
  go_enter Try.func27, Try.ntmps27
  go_wp2
  all_goals
    go_ret
    exact ⟨ret_bool (by simp [whiteB, *]), rfl⟩

/-- The law's own test of a white byte. -/
theorem lawWhite_any (c : UInt8) (w : World) :
    Calls Try.prog 14 #[.int .u8 c.toNat] w fun e w' => e = .returned (.bool (whiteB c)) ∧ w = w' := by
  go_enter Try.func14, Try.ntmps14
  go_wp2
  all_goals
    go_ret
    exact ⟨ret_bool (by simp [whiteB, *]), rfl⟩

end Go.Proofs.Ythnpedkinelemaa
