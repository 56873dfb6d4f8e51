/- The encodings that the program writes. -/
import Derived.Test.YtonfkmoocgpleaaDoorBase
import Derived.Lib.ItoaLen
import Derived.Lib.ItoaMem
namespace Go.Proofs.YtonfkmoocgpleaaDoor
open Go.RowKit

/-- The encoding of an int, of a string. -/
def encInt (n : Int) : List UInt8 := Lib.itoa n ++ [59]
def encText (s : List UInt8) : List UInt8 := Lib.itoa s.length ++ [58] ++ s ++ [44]

theorem data_append (a b : ByteArray) : (a ++ b).data.toList = a.data.toList ++ b.data.toList := by rw [ByteArray.data_append, Array.toList_append]

theorem Int_any (n : Int) (h0 : -9223372036854775808 ≤ n) (h1 : n ≤ 9223372036854775807) (w : World) (ht : Tab w) :
    Calls Tryd.prog 12 #[.int .i64 n] w fun e w' => e = .returned (.string ⟨(encInt n).toArray⟩) ∧ Kept w w' := by
  have hl := Lib.itoa_length_le n h0 h1
  have hl1 : ¬ 9223372036854775807 < (Lib.itoa n).length + 1 := by omega
  go_enter Tryd.func12, Tryd.ntmps12
  go_wp2_with (go_at_call 41; refine (Itoa_any n h0 h1 _ ht).mono ?_; rintro e w1 ⟨rfl, b1⟩)
  go_ret
  exact ⟨ret_string (by rw [data_append]; rfl), b1⟩

theorem Num_neg (n : Int) (h : n < 0) (w : World) :
    Calls Tryd.prog 10 #[.int .i64 n] w fun e w' => e = .returned (.string ⟨#[]⟩) ∧ Kept w w' := by
  go_enter Tryd.func10, Tryd.ntmps10
  go_wp2
  go_ret
  exact ⟨rfl, Kept.refl _⟩
theorem Num_pos (n : Int) (h : 0 ≤ n) (h1 : n ≤ 9223372036854775807) (w : World) (ht : Tab w) :
    Calls Tryd.prog 10 #[.int .i64 n] w fun e w' => e = .returned (.string ⟨(encInt n).toArray⟩) ∧ Kept w w' := by
  go_enter Tryd.func10, Tryd.ntmps10
  go_wp2_with (go_at_call 12; refine (Int_any n (by omega) h1 _ ht).mono ?_; rintro e w1 ⟨rfl, b1⟩)
  go_ret
  exact ⟨rfl, b1⟩

theorem Text_any (s : ByteArray) (hs : s.size ≤ 1000000000) (w : World) (ht : Tab w) :
    Calls Tryd.prog 14 #[.string s] w fun e w' => e = .returned (.string ⟨(encText s.data.toList).toArray⟩) ∧ Kept w w' := by
  have hl := Lib.itoa_length_le s.size (by omega) (by omega)
  have hl1 : ¬ 9223372036854775807 < (Lib.itoa s.size).length + 1 := by omega
  have hl2 : ¬ 9223372036854775807 < (Lib.itoa s.size).length + 1 + s.size := by omega
  have hl3 : ¬ 9223372036854775807 < (Lib.itoa s.size).length + 1 + s.size + 1 := by omega
  go_enter Tryd.func14, Tryd.ntmps14
  go_wp2_with (go_at_call 41; refine (Itoa_any s.size (by omega) (by omega) _ ht).mono ?_; rintro e w1 ⟨rfl, b1⟩)
  go_ret
  exact ⟨ret_string (by rw [data_append, data_append, data_append]; rfl), b1⟩
variable {α : Type}

/-- A slice of ints, of strings: read as a list, in blocks below n₀. -/
def Row (enc : α → Value) (w : World) (n₀ : Nat) (v : Value) (xs : List α) : Prop :=
  ∃ x cap, v = .slice x xs.length cap ∧ ∀ j (h : j < xs.length), ∃ b off, b < n₀ ∧ x = some ⟨b, off, none⟩ ∧ w.cell? ⟨b, off + j, none⟩ = some (enc xs[j])

theorem Row.below {enc : α → Value} {w w' : World} {n₀ : Nat} {v : Value} {xs : List α} (h : Row enc w n₀ v xs) (hb : Below n₀ w w') : Row enc w' n₀ v xs := by
  obtain ⟨x, cap, rfl, hc⟩ := h
  refine ⟨x, cap, rfl, fun j hj => ?_⟩
  obtain ⟨b, off, hlt, e, hcj⟩ := hc j hj
  exact ⟨b, off, hlt, e, (hb.cell (p := ⟨b, off + j, none⟩) hlt).trans hcj⟩
theorem Row.mono {enc : α → Value} {w : World} {n₀ n₁ : Nat} {v : Value} {xs : List α} (h : Row enc w n₀ v xs) (hn : n₀ ≤ n₁) : Row enc w n₁ v xs := by
  obtain ⟨x, cap, rfl, hc⟩ := h
  refine ⟨x, cap, rfl, fun j hj => ?_⟩
  obtain ⟨b, off, hlt, e, hcj⟩ := hc j hj
  exact ⟨b, off, by omega, e, hcj⟩
theorem Row.kept {enc : α → Value} {w w' : World} {v : Value} {xs : List α} (h : Row enc w w.heap.size v xs) (hb : Kept w w') : Row enc w' w'.heap.size v xs :=
  (Row.below h hb).mono hb.size
theorem Row.of_own {enc : α → Value} {w : World} {B : Nat} {e : TypeId} {v : Value} {xs : List α} (h : w.ownsRow B e 1 v xs.length (xs.map enc)) : Row enc w w.heap.size v xs := by
  rcases h.2 with ⟨rfl, h0⟩ | ⟨g, cap, cur, rfl, hB, hg, hcap, hm, hcur, htake⟩
  · exact ⟨none, 0, by rw [h0], fun j hj => by omega⟩
  · refine ⟨_, cap, rfl, fun j hj => ⟨g, 0, (World.ownsRow.lt h g rfl).2, rfl, ?_⟩⟩
    have := World.ownsRow.cells h (g := g) rfl j (enc xs[j]) (by rw [List.getElem?_map, List.getElem?_eq_getElem hj]; rfl)
    have hadd : (⟨g, 0, none⟩ : Addr).add j = ⟨g, 0 + j, none⟩ := by unfold Addr.add; split <;> simp_all
    rwa [hadd] at this

theorem builder_kept {B b : Nat} {bs : List Value} {w w' : World} (h : Lib.IsBuilder 68 5 B b bs w) (hb : Kept w w') : Lib.IsBuilder 68 5 B b bs w' := by
  have one : ∀ p, Lib.BuilderAt 68 5 B b p bs w → Lib.BuilderAt 68 5 B b p bs w' := by
    rintro p h
    have hlt := h.lt
    obtain ⟨hB, v, hbk, hown, hne⟩ := h
    refine ⟨hB, v, (Below.block hb b hlt).trans hbk, World.ownsRow.kept (row := none) hown ⟨hb.os, hb.tape, hb.output, Below.size hb, fun k hk _ => Below.block hb k hk⟩ ?_, hne⟩
    cases hv : v.ownBlock with
    | none => exact .inl rfl
    | some _ => exact .inr (by simp)
  rcases h with h | h
  · exact .inl (one _ h)
  · exact .inr (one _ h)

/-- The encoding of a list, its elements encoded by one. -/
def encList (one : α → List UInt8) (xs : List α) : List UInt8 := Lib.itoa xs.length ++ [91] ++ (xs.map one).flatten ++ [93]

theorem flat_take (one : α → List UInt8) (xs : List α) (k : Nat) (h : k < xs.length) : ((xs.take (k + 1)).map one).flatten = ((xs.take k).map one).flatten ++ one xs[k] := by
  rw [List.take_succ_eq_append_getElem h, List.map_append, List.flatten_append]; simp only [List.map_cons, List.map_nil, List.flatten_cons, List.flatten_nil, List.append_nil]
theorem flat_len (one : α → List UInt8) (m : Nat) (xs : List α) (hm : ∀ x ∈ xs, (one x).length ≤ m) (k : Nat) (hk : k ≤ xs.length) : ((xs.take k).map one).flatten.length ≤ k * m := by
  induction k with
  | zero => simp
  | succ k ih =>
    rw [flat_take _ _ _ (by omega), List.length_append, Nat.succ_mul]
    have h1 := ih (by omega)
    have h2 := hm xs[k] (List.getElem_mem _)
    omega

set_option maxRecDepth 100000 in
set_option maxHeartbeats 400000 in
theorem list1_any (v : Value) (xs : List Int) (w : World) (ht : Tab w) (hl : xs.length ≤ 100000) (hx : ∀ x ∈ xs, -9223372036854775808 ≤ x ∧ x ≤ 9223372036854775807) (hv : Row (Value.int .i64) w w.heap.size v xs) :
    Calls Tryd.prog 43 #[v, .func (.func 12) #[] #[]] w fun e w' => e = .returned (.string ⟨(encList encInt xs).toArray⟩) ∧ Kept w w' := by
  obtain ⟨x, cap, rfl, hc⟩ := hv
  have hC := Lib.hid hc
  clear hc
  have htb : ∀ w', Below w.heap.size w w' → Tab w' := fun w' hb => ht.kept hb
  have hb0 : Below w.heap.size w (w.alloc (.cells #[.pointer none, .slice none 0 0] 68)) := (Below.refl _ w).alloc (Nat.le_refl _) _
  have hIt := Itoa_any xs.length (by omega) (by omega) _ (htb _ hb0)
  have bO : Lib.IsBuilder 68 5 w.heap.size w.heap.size (Lib.byteCells []) (w.alloc (.cells #[.pointer none, .slice none 0 0] 68)) := Lib.fresh_isBuilder 68 5 w
  have hlen := Lib.itoa_length_le xs.length (by omega) (by omega)
  go_enter Tryd.func43, Tryd.ntmps43
  go_wp2_with (go_at_call 41; refine hIt.mono ?_)
  rintro e w1 ⟨rfl, b1⟩
  have bO1 := builder_kept bO b1
  have hb1 : Below w.heap.size w w1 := hb0.trans (b1.mono hb0.size)
  have hs1 := hb1.size
  go_wp2_with (go_at_call 57; refine (WriteString_any _ _ _ _ _ bO1 ?_ hs1).mono ?_)
  case refine_1 => show 0 + (Lib.itoa xs.length).length ≤ _; omega
  rintro e w2 ⟨rfl, b2, hb2, _, _⟩
  have hs2 := Nat.le_trans hs1 hb2.size
  go_wp2_with (go_at_call 58; refine (WriteByte_any _ _ _ _ _ (.inr b2) ?_ hs2).mono ?_)
  case refine_1 =>
    rw [List.length_append, Lib.strCells_length, Lib.byteCells_length]; show 0 + (Lib.itoa xs.length).length + 1 ≤ _; omega
  rintro e w3 ⟨rfl, b3, hb3, _, _⟩
  have hB3 : Below w.heap.size w w3 := (hb1.trans hb2).trans hb3
  have hhead : Lib.IsBuilder 68 5 w.heap.size w.heap.size (Lib.byteCells (Lib.itoa xs.length ++ [91] ++ ((xs.take 0).map encInt).flatten)) w3 := by
    refine .inr ?_
    have e : Lib.byteCells (Lib.itoa xs.length ++ [91] ++ ((xs.take 0).map encInt).flatten) = Lib.byteCells [] ++ Lib.strCells ⟨(Lib.itoa xs.length).toArray⟩ ++ [.int .u8 91] := by
      simp [Lib.byteCells, Lib.strCells]
    rw [e]; exact b3
  clear hb0 hIt bO b1 bO1 hb1 hs1 b2 hb2 hs2 b3 hb3
  go_wp2
  go_loopw [15] (fun i wr => ∃ k : Nat, i = .int .i64 k ∧ k ≤ xs.length ∧ Lib.IsBuilder 68 5 w.heap.size w.heap.size (Lib.byteCells (Lib.itoa xs.length ++ [91] ++ ((xs.take k).map encInt).flatten)) wr ∧ Below w.heap.size w wr) (fun i _ => xs.length - (intOf i).toNat)
  case atStart => exact ⟨0, rfl, Nat.zero_le _, hhead, hB3⟩
  case round =>
    clear hhead hB3
    obtain ⟨k, rfl, hk, hb, hB⟩ := hrel
    have hWs := hB.size
    have hel : ∀ x ∈ xs, (encInt x).length ≤ 22 := fun x hx' => by
      have := Lib.itoa_length_le x (hx x hx').1 (hx x hx').2
      unfold encInt; rw [List.length_append]; show _ + 1 ≤ _; omega
    have hacl := flat_len encInt 22 xs hel k hk
    have hlim : k * 22 ≤ 100000 * 22 := Nat.mul_le_mul (by omega) (by omega)
    have hpre : (Lib.itoa xs.length ++ [91] ++ ((xs.take k).map encInt).flatten).length ≤ 2200022 := by
      simp only [List.length_append, List.length_cons, List.length_nil]; omega
    by_cases hlt : k < xs.length
    · obtain ⟨b, off, hbk, rfl, hcb⟩ := hC.out k hlt
      have q := (hB.cell (p := ⟨b, off + k, none⟩) hbk).trans hcb
      have hnext := flat_take encInt xs k hlt
      have hxk := hx xs[k] (List.getElem_mem _)
      have hxl := hel xs[k] (List.getElem_mem _)
      obtain ⟨acc, hacc⟩ : ∃ acc, Lib.itoa xs.length ++ [91] ++ ((xs.take k).map encInt).flatten = acc := ⟨_, rfl⟩
      have hnext2 : Lib.itoa xs.length ++ [91] ++ ((xs.take (k + 1)).map encInt).flatten = acc ++ encInt xs[k] := by rw [hnext, ← List.append_assoc, hacc]
      rw [hacc] at hb hpre
      obtain ⟨z, hz⟩ : ∃ z, xs[k] = z := ⟨_, rfl⟩
      rw [hz] at q hnext2 hxk hxl
      have hOne := Int_any z hxk.1 hxk.2 wr (htb wr hB)
      have HN := Lib.hid hnext2
      have HX := Lib.hid hx
      clear hacc hnext hnext2 hel hacl hz hx hcb
      go_wp2_with (go_at_call 12; refine hOne.mono ?_)
      rintro e w4 ⟨rfl, b4⟩
      have bO4 := builder_kept hb b4
      have hB4 : Below w.heap.size w w4 := hB.trans (b4.mono hWs)
      go_wp2_with (go_at_call 57; refine (WriteString_any _ _ _ _ _ bO4 ?_ hB4.size).mono ?_)
      case refine_1 => rw [Lib.byteCells_length]; show acc.length + (encInt z).length ≤ _; omega
      rintro e w5 ⟨rfl, b5, hb5, _, _⟩
      go_wp2
      go_roundw
      case rel =>
        refine ⟨k + 1, by go_num, by omega, ?_, hB4.trans hb5⟩
        rw [HN.out, Lib.byteCells_append]; exact .inr b5
      case measure => simp only [intOf]; omega
    · have hke : xs.take k = xs := by rw [show k = xs.length by omega, List.take_length]
      rw [hke] at hb hpre
      clear hacl hel
      go_wp2_with (go_at_call 58; refine (WriteByte_any _ _ _ _ _ hb ?_ hWs).mono ?_)
      case refine_1 => rw [Lib.byteCells_length]; omega
      rintro e w4 ⟨rfl, b4, hb4, _, _⟩
      have hB4 := hB.trans hb4
      have e4 : Lib.byteCells (Lib.itoa xs.length ++ [91] ++ (xs.map encInt).flatten) ++ [.int .u8 93] = Lib.byteCells (encList encInt xs) := by
        simp [encList, Lib.byteCells]
      rw [e4] at b4
      go_wp2_with (go_at_call 59; refine (Tryd.Builder_String_any _ _ _ _ (.inr b4) hB4.size).mono ?_)
      rintro e w5 ⟨rfl, b5⟩
      go_wp2
      go_ret
      exact ⟨rfl, hB4.trans b5⟩

theorem refdigits : ∀ (N m : Nat), m < N → m ≤ 9223372036854775808 → ∀ w : World,
    Calls Tryd.prog 42 #[.int .i64 (-(m : Int))] w fun e w' => e = .returned (.string ⟨(Lib.decDigits m).toArray⟩) ∧ Kept w w'
  | 0, m, h, _, w => by omega
  | N + 1, m, hm, hb, w => by
    have hr : m % 10 < 10 := Nat.mod_lt _ (by omega)
    have hrc : (UInt8.ofNat (48 + m % 10)).toNat = 48 + m % 10 := by rw [UInt8.toNat_ofNat']; omega
    have hconv := run_convert_bytes_back (P := Tryd.prog) (w.alloc (.cells #[.int .u8 (48 + (m : Int) % 10)] 5)) 65 9 5 ⟨w.heap.size, 0, none⟩ 1 [UInt8.ofNat (48 + m % 10)] Tryd.underlying65 Tryd.underlying5 Tryd.underlying9 (fun j hj => by
      have hj0 : j = 0 := by simpa using hj
      subst hj0
      have e : ((UInt8.ofNat (48 + m % 10)).toNat : Int) = 48 + (m : Int) % 10 := by rw [hrc]; omega
      show World.cell? _ ((⟨w.heap.size, 0, none⟩ : Addr).add 0) = some (.int .u8 ((UInt8.ofNat (48 + m % 10)).toNat : Int))
      rw [e]; simp [Addr.add])
    have hB0 : Kept w (w.alloc (.cells #[.int .u8 (48 + (m : Int) % 10)] 5)) := (Below.refl _ w).alloc (Nat.le_refl _) _
    obtain ⟨D, hD⟩ : ∃ D, UInt8.ofNat (48 + m % 10) = D := ⟨_, rfl⟩
    rw [hD] at hconv
    have hcv : (convert 65 9 (.slice (some ⟨w.heap.size, 0, none⟩) 1 1)).run Tryd.prog (w.alloc (.cells #[.int .u8 (48 + (m : Int) % 10)] 5)) = .ok (.string ⟨#[D]⟩) (w.alloc (.cells #[.int .u8 (48 + (m : Int) % 10)] 5)) := hconv
    clear hconv hrc hr
    by_cases h10 : m < 10
    · have hd : Lib.decDigits m = [D] := by rw [← hD, Lib.decDigits_one h10, Nat.mod_eq_of_lt h10]
      have h10i : (m : Int) < 10 := by omega
      rw [hd]
      clear hd hD
      go_enter Tryd.func42, Tryd.ntmps42
      go_wp2
      go_ret
      exact ⟨rfl, hB0⟩
    · have hd : Lib.decDigits m = Lib.decDigits (m / 10) ++ [D] := by rw [Lib.decDigits, dif_neg h10, hD]
      have h10i : 10 ≤ (m : Int) := by omega
      have hrec := refdigits N (m / 10) (by omega) (by omega)
      have hq : (-((m / 10 : Nat) : Int)) = -((m : Int) / 10) := by omega
      rw [hq] at hrec
      have hlen := Lib.itoa_length_le ((m / 10 : Nat) : Int) (by omega) (by omega)
      rw [Lib.itoa_nonneg] at hlen
      have hl1 : ¬ 9223372036854775807 < (Lib.decDigits (m / 10)).length + 1 := by omega
      have HR := Lib.hid hrec
      rw [hd]
      clear hd hD hrec hq hlen
      go_enter Tryd.func42, Tryd.ntmps42
      go_wp2_with (go_at_call 42; refine (HR.out _).mono ?_; rintro e w1 ⟨rfl, b1⟩)
      go_ret
      exact ⟨ret_string (by rw [data_append]), hB0.trans b1⟩

end Go.Proofs.YtonfkmoocgpleaaDoor
