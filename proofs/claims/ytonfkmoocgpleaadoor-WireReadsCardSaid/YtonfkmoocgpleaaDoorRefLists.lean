/- The reference's lists. -/
import Derived.Test.YtonfkmoocgpleaaDoorLists
namespace Go.Proofs.YtonfkmoocgpleaaDoor
open Go.RowKit

set_option maxRecDepth 100000 in
set_option maxHeartbeats 400000 in
theorem RefNums_any (v : Value) (xs : List Int) (w : World) (hl : xs.length ≤ 100000) (hx : ∀ x ∈ xs, -9223372036854775808 ≤ x ∧ x ≤ 9223372036854775807) (hv : Row (Value.int .i64) w w.heap.size v xs) :
    Calls Tryd.prog 17 #[v] w fun e w' => e = .returned (.string ⟨(encList encInt xs).toArray⟩) ∧ Kept w w' := by
  obtain ⟨x, cap, rfl, hc⟩ := hv
  have hC := Lib.hid hc
  clear hc
  have hlen := Lib.itoa_length_le xs.length (by omega) (by omega)
  have hi := Lib.itoa_nonneg xs.length
  rw [hi] at hlen
  have hd := refdigits (xs.length + 1) xs.length (by omega) (by omega) w
  have hl1 : ¬ 9223372036854775807 < (Lib.decDigits xs.length).length + 1 := by omega
  have hen : encList encInt xs = Lib.decDigits xs.length ++ [91] ++ (xs.map encInt).flatten ++ [93] := by unfold encList; rw [hi]
  have HD := Lib.hid hd
  rw [hen]
  clear hi hd hen
  have hel : ∀ x ∈ xs, (encInt x).length ≤ 22 := fun x hx' => encInt_len x (hx x hx').1 (hx x hx').2
  have HX := Lib.hid hx
  clear hx
  go_enter Tryd.func17, Tryd.ntmps17
  go_wp2_with (go_at_call 42; refine HD.out.mono ?_)
  rintro e w1 ⟨rfl, b1⟩
  have hB0 : Below w.heap.size w w1 := b1
  clear b1 HD
  go_wp2
  go_loopw [3, 4] (fun sv i wr => ∃ (k : Nat) (acc : ByteArray), i = .int .i64 k ∧ k ≤ xs.length ∧ sv = .string acc ∧ Hid (acc.data.toList = Lib.decDigits xs.length ++ [91] ++ ((xs.take k).map encInt).flatten) ∧ Below w.heap.size w wr) (fun _ i _ => xs.length - (intOf i).toNat)
  case atStart => exact ⟨0, _, rfl, Nat.zero_le _, rfl, by show _ = _; rw [data_append]; simp, hB0⟩
  case round =>
    obtain ⟨k, acc, rfl, hk, rfl, hacc, hB⟩ := hrel
    have hacl := flat_len encInt 22 xs hel k hk
    have hlim : k * 22 ≤ 100000 * 22 := Nat.mul_le_mul (by omega) (by omega)
    have haz : acc.size ≤ 2200022 := by
      have : acc.size = (Lib.decDigits xs.length ++ [91] ++ ((xs.take k).map encInt).flatten).length := by rw [← hacc.out]; rfl
      rw [this]; simp only [List.length_append, List.length_cons, List.length_nil]; omega
    clear hacl hlim
    by_cases hlt : k < xs.length
    · obtain ⟨b, off, hbk, rfl, hcb⟩ := hC.out k hlt
      have q := (hB.cell (p := ⟨b, off + k, none⟩) hbk).trans hcb
      have hnext := flat_take encInt xs k hlt
      have hxk := HX.out xs[k] (List.getElem_mem _)
      have hxl := hel xs[k] (List.getElem_mem _)
      obtain ⟨z, hz⟩ : ∃ z, xs[k] = z := ⟨_, rfl⟩
      rw [hz] at q hnext hxk hxl
      have hOne := RefInt_any z hxk.1 hxk.2 wr
      have hl2 : ¬ 9223372036854775807 < acc.size + (encInt z).length := by omega
      have HN := Lib.hid hnext
      have HEl := Lib.hid hel
      clear hnext hel hz hcb
      go_wp2_with (go_at_call 13; refine hOne.mono ?_)
      rintro e w4 ⟨rfl, b4⟩
      go_wp2
      go_roundw
      case rel =>
        refine ⟨k + 1, _, by go_num, by omega, rfl, ?_, hB.trans (b4.mono hB.size)⟩
        show _ = _
        rw [data_append, hacc.out, HN.out]; simp only [List.append_assoc]
      case measure => simp only [intOf]; omega
    · have hke : xs.take k = xs := by rw [show k = xs.length by omega, List.take_length]
      have hacc2 := hacc.out
      rw [hke] at hacc2
      have HA := Lib.hid hacc2
      have hl2 : ¬ 9223372036854775807 < acc.size + 1 := by omega
      clear hacc hacc2 hel
      go_wp2
      go_ret
      exact ⟨ret_string (by rw [data_append, HA.out]), hB⟩

set_option maxRecDepth 100000 in
set_option maxHeartbeats 400000 in
theorem RefTexts_any (v : Value) (xs : List ByteArray) (w : World) (hl : xs.length ≤ 100000) (hx : ∀ x ∈ xs, x.size ≤ 1000) (hv : Row Value.string w w.heap.size v xs) :
    Calls Tryd.prog 19 #[v] w fun e w' => e = .returned (.string ⟨(encList encS xs).toArray⟩) ∧ Kept w w' := by
  obtain ⟨x, cap, rfl, hc⟩ := hv
  have hC := Lib.hid hc
  clear hc
  have hlen := Lib.itoa_length_le xs.length (by omega) (by omega)
  have hi := Lib.itoa_nonneg xs.length
  rw [hi] at hlen
  have hd := refdigits (xs.length + 1) xs.length (by omega) (by omega) w
  have hl1 : ¬ 9223372036854775807 < (Lib.decDigits xs.length).length + 1 := by omega
  have hen : encList encS xs = Lib.decDigits xs.length ++ [91] ++ (xs.map encS).flatten ++ [93] := by unfold encList; rw [hi]
  have HD := Lib.hid hd
  rw [hen]
  clear hi hd hen
  have hel : ∀ x ∈ xs, (encS x).length ≤ 1023 := fun x hx' => encS_len x (hx x hx')
  have HX := Lib.hid hx
  clear hx
  go_enter Tryd.func19, Tryd.ntmps19
  go_wp2_with (go_at_call 42; refine HD.out.mono ?_)
  rintro e w1 ⟨rfl, b1⟩
  have hB0 : Below w.heap.size w w1 := b1
  clear b1 HD
  go_wp2
  go_loopw [3, 4] (fun sv i wr => ∃ (k : Nat) (acc : ByteArray), i = .int .i64 k ∧ k ≤ xs.length ∧ sv = .string acc ∧ Hid (acc.data.toList = Lib.decDigits xs.length ++ [91] ++ ((xs.take k).map encS).flatten) ∧ Below w.heap.size w wr) (fun _ i _ => xs.length - (intOf i).toNat)
  case atStart => exact ⟨0, _, rfl, Nat.zero_le _, rfl, by show _ = _; rw [data_append]; simp, hB0⟩
  case round =>
    obtain ⟨k, acc, rfl, hk, rfl, hacc, hB⟩ := hrel
    have hacl := flat_len encS 1023 xs hel k hk
    have hlim : k * 1023 ≤ 100000 * 1023 := Nat.mul_le_mul (by omega) (by omega)
    have haz : acc.size ≤ 102300022 := by
      have : acc.size = (Lib.decDigits xs.length ++ [91] ++ ((xs.take k).map encS).flatten).length := by rw [← hacc.out]; rfl
      rw [this]; simp only [List.length_append, List.length_cons, List.length_nil]; omega
    clear hacl hlim
    by_cases hlt : k < xs.length
    · obtain ⟨b, off, hbk, rfl, hcb⟩ := hC.out k hlt
      have q := (hB.cell (p := ⟨b, off + k, none⟩) hbk).trans hcb
      have hnext := flat_take encS xs k hlt
      have hxk := HX.out xs[k] (List.getElem_mem _)
      have hxl := hel xs[k] (List.getElem_mem _)
      obtain ⟨z, hz⟩ : ∃ z, xs[k] = z := ⟨_, rfl⟩
      rw [hz] at q hnext hxk hxl
      have hOne := RefText_any z (by omega) wr
      have hl2 : ¬ 9223372036854775807 < acc.size + (encS z).length := by omega
      have HN := Lib.hid hnext
      have HEl := Lib.hid hel
      clear hnext hel hz hcb
      go_wp2_with (go_at_call 15; refine hOne.mono ?_)
      rintro e w4 ⟨rfl, b4⟩
      go_wp2
      go_roundw
      case rel =>
        refine ⟨k + 1, _, by go_num, by omega, rfl, ?_, hB.trans (b4.mono hB.size)⟩
        show _ = _
        rw [data_append, hacc.out, HN.out]; simp only [List.append_assoc]
      case measure => simp only [intOf]; omega
    · have hke : xs.take k = xs := by rw [show k = xs.length by omega, List.take_length]
      have hacc2 := hacc.out
      rw [hke] at hacc2
      have HA := Lib.hid hacc2
      have hl2 : ¬ 9223372036854775807 < acc.size + 1 := by omega
      clear hacc hacc2 hel
      go_wp2
      go_ret
      exact ⟨ret_string (by rw [data_append, HA.out]), hB⟩

end Go.Proofs.YtonfkmoocgpleaaDoor
