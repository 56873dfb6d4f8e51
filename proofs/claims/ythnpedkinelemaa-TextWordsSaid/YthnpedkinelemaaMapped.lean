/- Lower and Upper: each byte by itself. -/
import Derived.Test.YthnpedkinelemaaBytes
import Derived.Deep.OwnRows
import Derived.Laws.IdiomStrings
namespace Go.Proofs.Ythnpedkinelemaa
open Go.RowKit

theorem Try.info5 : (Try.prog.info? 5).map (fun i => (i.zero, i.size, i.bytes)) = some (some (.int .u8 0), 1, 1) := by kernel_rfl

/-- What the new row holds when k bytes are done. -/
def part (g : UInt8 → UInt8) (s : ByteArray) (k : Nat) (j : Nat) : Value := if j < k then .int .u8 (if h : j < s.size then ((g s[j]).toNat : Int) else 0) else .int .u8 0
theorem part_succ (g : UInt8 → UInt8) (s : ByteArray) (k : Nat) (h : k < s.size) : part g s (k + 1) = fun j => if j = k then Value.int .u8 ((g s[k]).toNat : Int) else part g s k j := by
  funext j
  unfold part
  by_cases e : j = k
  · subst e; simp [h]
  · by_cases h1 : j < k
    · rw [if_pos (by omega), if_neg e, if_pos h1]
    · rw [if_neg (by omega), if_neg e, if_neg h1]

set_option maxHeartbeats 1000000 in
theorem mapped_low (s : ByteArray) (w : World) (hs : s.size ≤ 1000000) :
    Calls Try.prog 29 #[.string s, .func (.func 25) #[] #[]] w fun e w' => e = .returned (.string ⟨(s.data.toList.map lowB).toArray⟩) ∧ Below w.heap.size w w' := by
  have hmk := fun W => run_make_row' (P := Try.prog) 37 5 (.int .u8 0) 1 Try.underlying37 Try.info5 rfl .i64 .i64 s.size (by omega) (by omega) W
  have h64 : (s.size : Int) ≤ 9223372036854775807 := by omega
  go_enter Try.func29, Try.ntmps29
  go_wp2
  go_loopw [12] (fun i wr => ∃ k : Nat, k ≤ s.size ∧ i = .int .i64 k ∧ wr.rowIs w.heap.size 5 s.size (part lowB s k) ∧ Below w.heap.size w wr) (fun i _ => s.size - (intOf i).toNat)
  case atStart =>
    exact ⟨0, Nat.zero_le _, rfl, (World.rowIs_made w (.int .u8 0) s.size 5).congr (fun i hi => by simp [part]), (Below.refl _ _).alloc (Nat.le_refl _) _⟩
  case round =>
    obtain ⟨k, hk, rfl, hrow, hb⟩ := hrel
    by_cases hlt : k < s.size
    · have hlt2 : (k : Int) < (s.size : Int) := by omega
      have hc := hrow.cell hlt
      have hf := hrow.frozen k
      have hE : Hid ((fun j => if j = k then Value.int .u8 ((lowB s[k]).toNat : Int) else part lowB s k j) = part lowB s (k + 1)) := (part_succ lowB s k hlt).symm
      go_wp2_with (go_at_call 25; refine (lower_any _ _).mono ?_; rintro e w1 ⟨rfl, rfl⟩)
      go_roundw
      case rel => exact ⟨k + 1, by omega, by go_num, by rw [← hE.out]; exact hrow.set k _, hb.setCell (by exact Nat.le_refl _) _⟩
      case measure => simp [intOf]; omega
    · obtain rfl : k = s.size := by omega
      have hconv := run_convert_bytes_back (P := Try.prog) wr 37 9 5 ⟨w.heap.size, 0, none⟩ s.size (s.data.toList.map lowB) Try.underlying37 Try.underlying5 Try.underlying9 (fun j hj => by
        have hj' : j < s.size := by simpa using hj
        have : (⟨w.heap.size, 0, none⟩ : Addr).add j = ⟨w.heap.size, j, none⟩ := by unfold Addr.add; split <;> simp_all
        rw [this, hrow.cell hj']
        simp only [part, if_pos hj', dif_pos hj', List.getElem_map]; rfl)
      have hll : (s.data.toList.map lowB).length = s.size := by simp
      rw [hll] at hconv
      go_wp2
      go_ret
      exact ⟨rfl, hb⟩

set_option maxHeartbeats 1000000 in
theorem mapped_upp (s : ByteArray) (w : World) (hs : s.size ≤ 1000000) :
    Calls Try.prog 29 #[.string s, .func (.func 30) #[] #[]] w fun e w' => e = .returned (.string ⟨(s.data.toList.map uppB).toArray⟩) ∧ Below w.heap.size w w' := by
  have hmk := fun W => run_make_row' (P := Try.prog) 37 5 (.int .u8 0) 1 Try.underlying37 Try.info5 rfl .i64 .i64 s.size (by omega) (by omega) W
  have h64 : (s.size : Int) ≤ 9223372036854775807 := by omega
  go_enter Try.func29, Try.ntmps29
  go_wp2
  go_loopw [12] (fun i wr => ∃ k : Nat, k ≤ s.size ∧ i = .int .i64 k ∧ wr.rowIs w.heap.size 5 s.size (part uppB s k) ∧ Below w.heap.size w wr) (fun i _ => s.size - (intOf i).toNat)
  case atStart =>
    exact ⟨0, Nat.zero_le _, rfl, (World.rowIs_made w (.int .u8 0) s.size 5).congr (fun i hi => by simp [part]), (Below.refl _ _).alloc (Nat.le_refl _) _⟩
  case round =>
    obtain ⟨k, hk, rfl, hrow, hb⟩ := hrel
    by_cases hlt : k < s.size
    · have hlt2 : (k : Int) < (s.size : Int) := by omega
      have hc := hrow.cell hlt
      have hf := hrow.frozen k
      have hE : Hid ((fun j => if j = k then Value.int .u8 ((uppB s[k]).toNat : Int) else part uppB s k j) = part uppB s (k + 1)) := (part_succ uppB s k hlt).symm
      go_wp2_with (go_at_call 30; refine (upper_any _ _).mono ?_; rintro e w1 ⟨rfl, rfl⟩)
      go_roundw
      case rel => exact ⟨k + 1, by omega, by go_num, by rw [← hE.out]; exact hrow.set k _, hb.setCell (by exact Nat.le_refl _) _⟩
      case measure => simp [intOf]; omega
    · obtain rfl : k = s.size := by omega
      have hconv := run_convert_bytes_back (P := Try.prog) wr 37 9 5 ⟨w.heap.size, 0, none⟩ s.size (s.data.toList.map uppB) Try.underlying37 Try.underlying5 Try.underlying9 (fun j hj => by
        have hj' : j < s.size := by simpa using hj
        have : (⟨w.heap.size, 0, none⟩ : Addr).add j = ⟨w.heap.size, j, none⟩ := by unfold Addr.add; split <;> simp_all
        rw [this, hrow.cell hj']
        simp only [part, if_pos hj', dif_pos hj', List.getElem_map]; rfl)
      have hll : (s.data.toList.map uppB).length = s.size := by simp
      rw [hll] at hconv
      go_wp2
      go_ret
      exact ⟨rfl, hb⟩

theorem Lower_any (s : ByteArray) (w : World) (hs : s.size ≤ 1000000) :
    Calls Try.prog 17 #[.string s] w fun e w' => e = .returned (.string ⟨(s.data.toList.map lowB).toArray⟩) ∧ Below w.heap.size w w' := by
  go_enter Try.func17, Try.ntmps17
  go_wp2_with fail
  refine (mapped_low s _ hs).mono ?_
  rintro e w1 ⟨rfl, hb⟩
  go_wp2
  go_ret
  exact ⟨rfl, hb⟩
theorem Upper_any (s : ByteArray) (w : World) (hs : s.size ≤ 1000000) :
    Calls Try.prog 18 #[.string s] w fun e w' => e = .returned (.string ⟨(s.data.toList.map uppB).toArray⟩) ∧ Below w.heap.size w w' := by
  go_enter Try.func18, Try.ntmps18
  go_wp2_with fail
  refine (mapped_upp s _ hs).mono ?_
  rintro e w1 ⟨rfl, hb⟩
  go_wp2
  go_ret
  exact ⟨rfl, hb⟩

end Go.Proofs.Ythnpedkinelemaa
