/- SameNums, SameTexts at two slices that hold the same list. -/
import Derived.Test.YtonfkmoocgpleaaDoorKinds
namespace Go.Proofs.YtonfkmoocgpleaaDoor
open Go.RowKit

/-- True, and nothing but draws. -/
def Drew (w : World) (v : Value) (e : Ending) (w' : World) : Prop := e = .returned v ∧ ∃ m, w' = w.drewN m

set_option maxRecDepth 100000 in
theorem SameNums_any (a b : Value) (xs : List Int) (w : World) (hl : xs.length ≤ 9223372036854775807) (ha : Row (Value.int .i64) w w.heap.size a xs) (hb : Row (Value.int .i64) w w.heap.size b xs) :
    Calls Tryd.prog 29 #[a, b] w (Drew w (.bool true)) := by
  obtain ⟨ax, acap, rfl, hac⟩ := ha
  obtain ⟨bx, bcap, rfl, hbc⟩ := hb
  have HA := Lib.hid hac
  have HB := Lib.hid hbc
  clear hac hbc
  go_enter Tryd.func29, Tryd.ntmps29
  go_wp2
  go_loopw [5] (fun iv wr => ∃ (i : Nat), iv = .int .i64 i ∧ i ≤ xs.length ∧ ∃ m, wr = w.drewN m) (fun iv _ => xs.length - (intOf iv).toNat)
  case atStart => exact ⟨0, rfl, Nat.zero_le _, 0, rfl⟩
  case round =>
    obtain ⟨i, rfl, hi, m, rfl⟩ := hrel
    by_cases hlt : i < xs.length
    · obtain ⟨b1, o1, _, rfl, c1⟩ := HA.out i hlt
      obtain ⟨b2, o2, _, rfl, c2⟩ := HB.out i hlt
      obtain ⟨z, hz⟩ : ∃ z, xs[i] = z := ⟨_, rfl⟩
      rw [hz] at c1 c2
      clear hz
      go_wp2
      go_quiet (fail)
      go_wp2
      go_roundw
      case rel => exact ⟨i + 1, by go_num, by omega, _, rfl⟩
      case measure => simp only [intOf]; omega
    · go_wp2
      go_ret
      exact ⟨rfl, m, rfl⟩
set_option maxRecDepth 100000 in
theorem SameTexts_any (a b : Value) (xs : List ByteArray) (w : World) (hl : xs.length ≤ 9223372036854775807) (ha : Row Value.string w w.heap.size a xs) (hb : Row Value.string w w.heap.size b xs) :
    Calls Tryd.prog 32 #[a, b] w (Drew w (.bool true)) := by
  obtain ⟨ax, acap, rfl, hac⟩ := ha
  obtain ⟨bx, bcap, rfl, hbc⟩ := hb
  have HA := Lib.hid hac
  have HB := Lib.hid hbc
  clear hac hbc
  go_enter Tryd.func32, Tryd.ntmps32
  go_wp2
  go_loopw [5] (fun iv wr => ∃ (i : Nat), iv = .int .i64 i ∧ i ≤ xs.length ∧ ∃ m, wr = w.drewN m) (fun iv _ => xs.length - (intOf iv).toNat)
  case atStart => exact ⟨0, rfl, Nat.zero_le _, 0, rfl⟩
  case round =>
    obtain ⟨i, rfl, hi, m, rfl⟩ := hrel
    by_cases hlt : i < xs.length
    · obtain ⟨b1, o1, _, rfl, c1⟩ := HA.out i hlt
      obtain ⟨b2, o2, _, rfl, c2⟩ := HB.out i hlt
      obtain ⟨z, hz⟩ : ∃ z, xs[i] = z := ⟨_, rfl⟩
      rw [hz] at c1 c2
      clear hz
      go_wp2
      go_quiet (fail)
      go_wp2
      go_roundw
      case rel => exact ⟨i + 1, by go_num, by omega, _, rfl⟩
      case measure => simp only [intOf]; omega
    · go_wp2
      go_ret
      exact ⟨rfl, m, rfl⟩
end Go.Proofs.YtonfkmoocgpleaaDoor
