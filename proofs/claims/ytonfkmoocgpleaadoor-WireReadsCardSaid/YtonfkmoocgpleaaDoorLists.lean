/- Lists of strings; the reference's encodings. -/
import Derived.Test.YtonfkmoocgpleaaDoorWrites
namespace Go.Proofs.YtonfkmoocgpleaaDoor
open Go.RowKit

def encS (s : ByteArray) : List UInt8 := encText s.data.toList
theorem encS_len (s : ByteArray) (h : s.size ≤ 1000) : (encS s).length ≤ 1023 := by
  have h1 := Lib.itoa_length_le s.size (by omega) (by omega)
  have h2 : s.data.toList.length = s.size := rfl
  unfold encS encText
  simp only [List.length_append, List.length_cons, List.length_nil, h2]; omega
theorem encInt_len (n : Int) (h0 : -9223372036854775808 ≤ n) (h1 : n ≤ 9223372036854775807) : (encInt n).length ≤ 22 := by
  have := Lib.itoa_length_le n h0 h1
  unfold encInt; rw [List.length_append]; show _ + 1 ≤ _; omega

set_option maxRecDepth 100000 in
set_option maxHeartbeats 400000 in
theorem list2_any (v : Value) (xs : List ByteArray) (w : World) (ht : Tab w) (hl : xs.length ≤ 100000) (hx : ∀ x ∈ xs, x.size ≤ 1000) (hv : Row Value.string w w.heap.size v xs) :
    Calls Tryd.prog 44 #[v, .func (.func 14) #[] #[]] w fun e w' => e = .returned (.string ⟨(encList encS xs).toArray⟩) ∧ Kept w w' := by
  obtain ⟨x, cap, rfl, hc⟩ := hv
  have hC := Lib.hid hc
  clear hc
  have htb : ∀ w', Below w.heap.size w w' → Tab w' := fun w' hb => ht.kept hb
  have hb0 : Below w.heap.size w (w.alloc (.cells #[.pointer none, .slice none 0 0] 68)) := (Below.refl _ w).alloc (Nat.le_refl _) _
  have hIt := Itoa_any xs.length (by omega) (by omega) _ (htb _ hb0)
  have bO : Lib.IsBuilder 68 5 w.heap.size w.heap.size (Lib.byteCells []) (w.alloc (.cells #[.pointer none, .slice none 0 0] 68)) := Lib.fresh_isBuilder 68 5 w
  have hlen := Lib.itoa_length_le xs.length (by omega) (by omega)
  go_enter Tryd.func44, Tryd.ntmps44
  go_wp2_with (go_at_call 41; refine hIt.mono ?_)
  rintro e w1 ⟨rfl, b1⟩
  have bO1 := builder_kept bO b1
  have hb1 : Below w.heap.size w w1 := hb0.trans (b1.mono hb0.size)
  have hs1 := hb1.size
  go_wp2_with (go_at_call 57; refine (WriteString_any _ _ _ _ _ bO1 ?_ hs1).mono ?_)
  case refine_1 => show 0 + (Lib.itoa xs.length).length ≤ _; omega
  rintro e w2 ⟨rfl, b2, hb2, _, _⟩
  have hs2 := Nat.le_trans hs1 hb2.size
  go_wp2_with (go_at_call 58; refine (WriteByte_any _ _ _ _ _ (.inr b2) ?_ hs2).mono ?_)
  case refine_1 =>
    rw [List.length_append, Lib.strCells_length, Lib.byteCells_length]; show 0 + (Lib.itoa xs.length).length + 1 ≤ _; omega
  rintro e w3 ⟨rfl, b3, hb3, _, _⟩
  have hB3 : Below w.heap.size w w3 := (hb1.trans hb2).trans hb3
  have hhead : Lib.IsBuilder 68 5 w.heap.size w.heap.size (Lib.byteCells (Lib.itoa xs.length ++ [91] ++ ((xs.take 0).map encS).flatten)) w3 := by
    refine .inr ?_
    have e : Lib.byteCells (Lib.itoa xs.length ++ [91] ++ ((xs.take 0).map encS).flatten) = Lib.byteCells [] ++ Lib.strCells ⟨(Lib.itoa xs.length).toArray⟩ ++ [.int .u8 91] := by
      simp [Lib.byteCells, Lib.strCells]
    rw [e]; exact b3
  clear hb0 hIt bO b1 bO1 hb1 hs1 b2 hb2 hs2 b3 hb3
  go_wp2
  go_loopw [15] (fun i wr => ∃ k : Nat, i = .int .i64 k ∧ k ≤ xs.length ∧ Lib.IsBuilder 68 5 w.heap.size w.heap.size (Lib.byteCells (Lib.itoa xs.length ++ [91] ++ ((xs.take k).map encS).flatten)) wr ∧ Below w.heap.size w wr) (fun i _ => xs.length - (intOf i).toNat)
  case atStart => exact ⟨0, rfl, Nat.zero_le _, hhead, hB3⟩
  case round =>
    clear hhead hB3
    obtain ⟨k, rfl, hk, hb, hB⟩ := hrel
    have hWs := hB.size
    have hel : ∀ x ∈ xs, (encS x).length ≤ 1023 := fun x hx' => by
      have := hx x hx'
      exact encS_len x this
    have hacl := flat_len encS 1023 xs hel k hk
    have hlim : k * 1023 ≤ 100000 * 1023 := Nat.mul_le_mul (by omega) (by omega)
    have hpre : (Lib.itoa xs.length ++ [91] ++ ((xs.take k).map encS).flatten).length ≤ 102300022 := by
      simp only [List.length_append, List.length_cons, List.length_nil]; omega
    by_cases hlt : k < xs.length
    · obtain ⟨b, off, hbk, rfl, hcb⟩ := hC.out k hlt
      have q := (hB.cell (p := ⟨b, off + k, none⟩) hbk).trans hcb
      have hnext := flat_take encS xs k hlt
      have hxk := hx xs[k] (List.getElem_mem _)
      have hxl := hel xs[k] (List.getElem_mem _)
      obtain ⟨acc, hacc⟩ : ∃ acc, Lib.itoa xs.length ++ [91] ++ ((xs.take k).map encS).flatten = acc := ⟨_, rfl⟩
      have hnext2 : Lib.itoa xs.length ++ [91] ++ ((xs.take (k + 1)).map encS).flatten = acc ++ encS xs[k] := by rw [hnext, ← List.append_assoc, hacc]
      rw [hacc] at hb hpre
      obtain ⟨z, hz⟩ : ∃ z, xs[k] = z := ⟨_, rfl⟩
      rw [hz] at q hnext2 hxk hxl
      have hOne := Text_any z (by omega) wr (htb wr hB)
      have HN := Lib.hid hnext2
      have HX := Lib.hid hx
      clear hacc hnext hnext2 hel hacl hz hx hcb
      go_wp2_with (go_at_call 14; refine hOne.mono ?_)
      rintro e w4 ⟨rfl, b4⟩
      have bO4 := builder_kept hb b4
      have hB4 : Below w.heap.size w w4 := hB.trans (b4.mono hWs)
      go_wp2_with (go_at_call 57; refine (WriteString_any _ _ _ _ _ bO4 ?_ hB4.size).mono ?_)
      case refine_1 => rw [Lib.byteCells_length]; show acc.length + (encS z).length ≤ _; omega
      rintro e w5 ⟨rfl, b5, hb5, _, _⟩
      go_wp2
      go_roundw
      case rel =>
        refine ⟨k + 1, by go_num, by omega, ?_, hB4.trans hb5⟩
        rw [HN.out, Lib.byteCells_append]; exact .inr b5
      case measure => simp only [intOf]; omega
    · have hke : xs.take k = xs := by rw [show k = xs.length by omega, List.take_length]
      rw [hke] at hb hpre
      clear hacl hel
      go_wp2_with (go_at_call 58; refine (WriteByte_any _ _ _ _ _ hb ?_ hWs).mono ?_)
      case refine_1 => rw [Lib.byteCells_length]; omega
      rintro e w4 ⟨rfl, b4, hb4, _, _⟩
      have hB4 := hB.trans hb4
      have e4 : Lib.byteCells (Lib.itoa xs.length ++ [91] ++ (xs.map encS).flatten) ++ [.int .u8 93] = Lib.byteCells (encList encS xs) := by
        simp [encList, Lib.byteCells]
      rw [e4] at b4
      go_wp2_with (go_at_call 59; refine (Tryd.Builder_String_any _ _ _ _ (.inr b4) hB4.size).mono ?_)
      rintro e w5 ⟨rfl, b5⟩
      go_wp2
      go_ret
      exact ⟨rfl, hB4.trans b5⟩

theorem Nums_any (v : Value) (xs : List Int) (w : World) (ht : Tab w) (hl : xs.length ≤ 100000) (hx : ∀ x ∈ xs, -9223372036854775808 ≤ x ∧ x ≤ 9223372036854775807) (hv : Row (Value.int .i64) w w.heap.size v xs) :
    Calls Tryd.prog 16 #[v] w fun e w' => e = .returned (.string ⟨(encList encInt xs).toArray⟩) ∧ Kept w w' := by
  go_enter Tryd.func16, Tryd.ntmps16
  go_wp2_with (go_at_call 43; refine (list1_any v xs _ ht hl hx hv).mono ?_; rintro e w1 ⟨rfl, b1⟩)
  go_ret
  exact ⟨rfl, b1⟩
theorem Texts_any (v : Value) (xs : List ByteArray) (w : World) (ht : Tab w) (hl : xs.length ≤ 100000) (hx : ∀ x ∈ xs, x.size ≤ 1000) (hv : Row Value.string w w.heap.size v xs) :
    Calls Tryd.prog 18 #[v] w fun e w' => e = .returned (.string ⟨(encList encS xs).toArray⟩) ∧ Kept w w' := by
  go_enter Tryd.func18, Tryd.ntmps18
  go_wp2_with (go_at_call 44; refine (list2_any v xs _ ht hl hx hv).mono ?_; rintro e w1 ⟨rfl, b1⟩)
  go_ret
  exact ⟨rfl, b1⟩

theorem RefInt_any (n : Int) (h0 : -9223372036854775808 ≤ n) (h1 : n ≤ 9223372036854775807) (w : World) :
    Calls Tryd.prog 13 #[.int .i64 n] w fun e w' => e = .returned (.string ⟨(encInt n).toArray⟩) ∧ Kept w w' := by
  have hl := Lib.itoa_length_le n h0 h1
  by_cases hn : n < 0
  · obtain ⟨m, hm⟩ : ∃ m : Nat, n = -(m : Int) := ⟨n.natAbs, by omega⟩
    have hi : Lib.itoa n = 45 :: Lib.decDigits m := by rw [hm]; exact Lib.itoa_neg m (by omega)
    have hd : Calls Tryd.prog 42 #[.int .i64 n] w fun e w' => e = .returned (.string ⟨(Lib.decDigits m).toArray⟩) ∧ Kept w w' := by
      rw [hm]; exact refdigits (m + 1) m (by omega) (by omega) w
    have hl1 : ¬ 9223372036854775807 < 1 + (Lib.decDigits m).length := by rw [hi] at hl; simp only [List.length_cons] at hl; omega
    have hl2 : ¬ 9223372036854775807 < 1 + (Lib.decDigits m).length + 1 := by rw [hi] at hl; simp only [List.length_cons] at hl; omega
    have hen : encInt n = 45 :: Lib.decDigits m ++ [59] := by unfold encInt; rw [hi]
    have HD := Lib.hid hd
    rw [hen]
    clear hi hd hl hm hen
    go_enter Tryd.func13, Tryd.ntmps13
    go_wp2_with (go_at_call 42; refine HD.out.mono ?_; rintro e w1 ⟨rfl, b1⟩)
    go_ret
    exact ⟨ret_string (by rw [data_append, data_append]; rfl), b1⟩
  · obtain ⟨m, hm⟩ : ∃ m : Nat, n = (m : Int) := ⟨n.natAbs, by omega⟩
    have hi : Lib.itoa n = Lib.decDigits m := by rw [hm]; exact Lib.itoa_nonneg m
    have hd : Calls Tryd.prog 42 #[.int .i64 (-n)] w fun e w' => e = .returned (.string ⟨(Lib.decDigits m).toArray⟩) ∧ Kept w w' := by
      rw [hm]; exact refdigits (m + 1) m (by omega) (by omega) w
    have hl2 : ¬ 9223372036854775807 < (Lib.decDigits m).length + 1 := by rw [hi] at hl; omega
    have hen : encInt n = Lib.decDigits m ++ [59] := by unfold encInt; rw [hi]
    have HD := Lib.hid hd
    rw [hen]
    clear hi hd hl hm hen
    go_enter Tryd.func13, Tryd.ntmps13
    go_wp2_with (go_at_call 42; refine HD.out.mono ?_; rintro e w1 ⟨rfl, b1⟩)
    go_ret
    exact ⟨ret_string (by rw [data_append]), b1⟩

theorem RefNum_neg (n : Int) (h : n < 0) (w : World) :
    Calls Tryd.prog 11 #[.int .i64 n] w fun e w' => e = .returned (.string ⟨#[]⟩) ∧ Kept w w' := by
  go_enter Tryd.func11, Tryd.ntmps11
  go_wp2
  go_ret
  exact ⟨rfl, Kept.refl _⟩
theorem RefNum_pos (n : Int) (h : 0 ≤ n) (h1 : n ≤ 9223372036854775807) (w : World) :
    Calls Tryd.prog 11 #[.int .i64 n] w fun e w' => e = .returned (.string ⟨(encInt n).toArray⟩) ∧ Kept w w' := by
  go_enter Tryd.func11, Tryd.ntmps11
  go_wp2_with (go_at_call 13; refine (RefInt_any n (by omega) h1 _).mono ?_; rintro e w1 ⟨rfl, b1⟩)
  go_ret
  exact ⟨rfl, b1⟩

theorem RefText_any (s : ByteArray) (hs : s.size ≤ 1000000000) (w : World) :
    Calls Tryd.prog 15 #[.string s] w fun e w' => e = .returned (.string ⟨(encS s).toArray⟩) ∧ Kept w w' := by
  have hl := Lib.itoa_length_le s.size (by omega) (by omega)
  have hi := Lib.itoa_nonneg s.size
  rw [hi] at hl
  have hd := refdigits (s.size + 1) s.size (by omega) (by omega) w
  have hl1 : ¬ 9223372036854775807 < (Lib.decDigits s.size).length + 1 := by omega
  have hl2 : ¬ 9223372036854775807 < (Lib.decDigits s.size).length + 1 + s.size := by omega
  have hl3 : ¬ 9223372036854775807 < (Lib.decDigits s.size).length + 1 + s.size + 1 := by omega
  have hen : encS s = Lib.decDigits s.size ++ [58] ++ s.data.toList ++ [44] := by unfold encS encText; rw [show s.data.toList.length = s.size from rfl, hi]
  have HD := Lib.hid hd
  rw [hen]
  clear hl hi hd hen
  go_enter Tryd.func15, Tryd.ntmps15
  go_wp2_with (go_at_call 42; refine HD.out.mono ?_; rintro e w1 ⟨rfl, b1⟩)
  go_ret
  exact ⟨ret_string (by rw [data_append, data_append, data_append]), b1⟩
end Go.Proofs.YtonfkmoocgpleaaDoor
