/- The reference's Back: the int whose decimal form a string is. -/
import Derived.Test.YtonfkmoocgpleaaDoorAheadPlain
import Derived.Test.YtonfkmoocgpleaaDoorRefLists
import Derived.Test.YtonfkmoocgpleaaDoorReader
namespace Go.Proofs.YtonfkmoocgpleaaDoor
open Go.RowKit

theorem val_take_le (D : List UInt8) (k : Nat) : val (D.take k) ≤ val D := by
  have := val_mono (D.take k) (D.drop k)
  rwa [List.take_append_drop] at this
theorem eq_yes (y t : ByteArray) (h : y.data.toList = t.data.toList) : (y.toList == t.toList) = true := by rw [string_eq h]; simp
theorem eq_no (y t : ByteArray) (h : y.data.toList ≠ t.data.toList) : (y.toList == t.toList) = false := by
  rw [beq_eq_false_iff_ne, Lib.toList_data, Lib.toList_data]; exact h
theorem RefInt_str (u : Int) (hu : I64R u) (w : World) : ∃ y : ByteArray, y.data.toList = encInt u ∧ Calls Tryd.prog 13 #[.int .i64 u] w fun e w' => e = .returned (.string y) ∧ Kept w w' :=
  ⟨⟨(encInt u).toArray⟩, rfl, RefInt_any u hu.1 hu.2 w⟩
theorem semi (s : ByteArray) : (s ++ ⟨#[59]⟩ : ByteArray).data.toList = s.data.toList ++ [59] := by rw [data_append]
def RetKept (v : Value) (w : World) (e : Ending) (w' : World) : Prop := e = .returned v ∧ Kept w w'

set_option maxRecDepth 100000 in
set_option maxHeartbeats 1000000 in
theorem back_pos (m : Nat) (hm : m ≤ 9223372036854775807) (s : ByteArray) (hs : s.data.toList = Lib.decDigits m) (w : World) :
    Calls Tryd.prog 61 #[.string s] w (RetKept (.tuple #[.int .i64 m, .bool true]) w) := by
  have hlen := Lib.itoa_length_le (m : Int) (by omega) (by omega)
  rw [Lib.itoa_nonneg] at hlen
  have hsz : s.size = (Lib.decDigits m).length := by rw [← hs]; rfl
  have hne := List.length_pos_iff.2 (dec_ne m)
  have h0 : 0 < s.size := by omega
  have h0i : (0 : Int) < s.size := by omega
  have hs21 : s.size ≤ 21 := by omega
  have hg : ∀ j (h : j < s.size), dg s[j] = true ∧ val ((Lib.decDigits m).take (j + 1)) = 10 * val ((Lib.decDigits m).take j) + (s[j].toNat - 48) := fun j h => by
    have e : s[j] = (Lib.decDigits m)[j]'(by omega) := by
      have : s.data.toList[j]'(by show j < s.size; exact h) = s[j] := rfl
      rw [← this]; simp only [hs]
    refine ⟨by rw [e]; exact dec_all m _ (List.getElem_mem _), ?_⟩
    rw [take_snoc _ j (by omega), val_snoc, e]
  have hd0 := (dg_iff _).1 (hg 0 h0).1
  have hz : ((s[0].toNat : Int) == 45) = false := by rw [beq_eq_false_iff_ne]; omega
  have hzn : ¬ (s[0].toNat : Int) = 45 := by omega
  have hvm := dec_val m
  have hvl : ∀ k, val ((Lib.decDigits m).take k) ≤ m := fun k => by have := val_take_le (Lib.decDigits m) k; rw [hvm] at this; exact this
  obtain ⟨y, hy, hcall⟩ : ∃ y : ByteArray, y.data.toList = encInt m ∧ ∀ W : World, Calls Tryd.prog 13 #[.int .i64 (m : Int)] W fun e w' => e = .returned (.string y) ∧ Kept W w' :=
    ⟨⟨(encInt m).toArray⟩, rfl, fun W => RefInt_any m (by omega) (by omega) W⟩
  have hey : (y.toList == (s ++ ⟨#[59]⟩ : ByteArray).toList) = true := eq_yes _ _ (by rw [hy, semi, hs]; unfold encInt; rw [Lib.itoa_nonneg])
  have hend : val ((Lib.decDigits m).take s.size) = m := by rw [hsz, List.take_length]; exact hvm
  have hadd : ¬ 9223372036854775807 < s.size + 1 := by omega
  have HG := Lib.hid hg
  have HV := Lib.hid hvl
  have HC := Lib.hid hcall
  have HE := Lib.hid hend
  clear hlen hsz hs hne hg hd0 hvm hvl hcall hend hy
  go_enter Tryd.func61, Tryd.ntmps61
  go_wp2
  go_loop [5, 6] (fun nv iv => ∃ (k : Nat) (z : Int), iv = .int .i64 k ∧ nv = .int .i64 z ∧ k ≤ s.size ∧ Hid (z = -(val ((Lib.decDigits m).take k) : Int)) ∧ -9223372036854775808 ≤ z ∧ z ≤ 0) (fun _ iv => s.size - (intOf iv).toNat)
  case atStart => exact ⟨0, 0, rfl, rfl, Nat.zero_le _, rfl, by omega, by omega⟩
  case round =>
    obtain ⟨k, z, rfl, rfl, hk, hv, hz1, hz2⟩ := hrel
    by_cases hlt : k < s.size
    · obtain ⟨h1, h2⟩ := HG.out k hlt
      obtain ⟨d1, d2⟩ := (dg_iff _).1 h1
      have e1 : (48 : Int) ≤ s[k].toNat := by omega
      have e2 : (s[k].toNat : Int) ≤ 57 := by omega
      obtain ⟨d, hdd⟩ : ∃ d : Nat, s[k].toNat - 48 = d := ⟨_, rfl⟩
      have hsub : IntKind.u8.wrap ((s[k].toNat : Int) - 48) = (d : Int) := by rw [u8_sub _ d1, hdd]
      have hsub2 : (s[k].toNat : Int) - 48 = (d : Int) := by omega
      have hnx : Hid (10 * z - (d : Int) = -(val ((Lib.decDigits m).take (k + 1)) : Int)) := by
        show _ = _
        rw [h2, hv.out, hdd]; omega
      have hbig := HV.out (k + 1)
      have hb2 : -9223372036854775808 ≤ 10 * z - (d : Int) := by rw [hnx.out]; omega
      have hd9 : (d : Int) ≤ 9 := by omega
      have hd00 : (0 : Int) ≤ d := by omega
      clear h1 h2 d1 d2 hdd hbig
      go_wp2
      go_round
      case rel => exact ⟨k + 1, 10 * z - d, by go_num, rfl, by omega, hnx, hb2, by omega⟩
      case measure => simp only [intOf]; omega
    · have hke : k = s.size := by omega
      have hzm : z = -(m : Int) := by rw [hv.out, hke, HE.out]
      have HZ : -z = (m : Int) := by omega
      have H1 : -9223372036854775807 ≤ z := by omega
      clear hke hv
      subst hzm
      have HZ := Lib.hid HZ
      go_wp2_with (go_at_call 13; refine (HC.out _).mono ?_; rintro e w1 ⟨rfl, b1⟩)
      go_wp2
      go_ret2
      exact ⟨rfl, b1⟩
set_option maxRecDepth 100000 in
set_option maxHeartbeats 1000000 in
theorem back_neg (m : Nat) (hm1 : 1 ≤ m) (hm : m ≤ 9223372036854775808) (s : ByteArray) (hs : s.data.toList = 45 :: Lib.decDigits m) (w : World) :
    Calls Tryd.prog 61 #[.string s] w (RetKept (.tuple #[.int .i64 (-(m : Int)), .bool true]) w) := by
  have hlen := Lib.itoa_length_le (-(m : Int)) (by omega) (by omega)
  rw [Lib.itoa_neg m hm1, List.length_cons] at hlen
  have hsz : s.size = (Lib.decDigits m).length + 1 := by
    have : s.size = s.data.toList.length := rfl
    rw [this, hs]; rfl
  have hne := List.length_pos_iff.2 (dec_ne m)
  have h0 : 0 < s.size := by omega
  have h0i : (0 : Int) < s.size := by omega
  have hs21 : s.size ≤ 21 := by omega
  have hg : ∀ j (h : j + 1 < s.size), dg s[j + 1] = true ∧ val ((Lib.decDigits m).take (j + 1)) = 10 * val ((Lib.decDigits m).take j) + (s[j + 1].toNat - 48) := fun j h => by
    have e : s[j + 1] = (Lib.decDigits m)[j]'(by omega) := by
      have : s.data.toList[j + 1]'(by show j + 1 < s.size; exact h) = s[j + 1] := rfl
      rw [← this]; simp only [hs, List.getElem_cons_succ]
    refine ⟨by rw [e]; exact dec_all m _ (List.getElem_mem _), ?_⟩
    rw [take_snoc _ j (by omega), val_snoc, e]
  have hd0 : s[0] = 45 := by
    have : s.data.toList[0]'(by show 0 < s.size; exact h0) = s[0] := rfl
    rw [← this]; simp only [hs, List.getElem_cons_zero]
  have hz : ((s[0].toNat : Int) == 45) = true := by rw [hd0]; rfl
  have hzn : (s[0].toNat : Int) = 45 := by rw [hd0]; rfl
  have hvm := dec_val m
  have hvl : ∀ k, val ((Lib.decDigits m).take k) ≤ m := fun k => by have := val_take_le (Lib.decDigits m) k; rw [hvm] at this; exact this
  obtain ⟨y, hy, hcall⟩ : ∃ y : ByteArray, y.data.toList = encInt (-(m : Int)) ∧ ∀ W : World, Calls Tryd.prog 13 #[.int .i64 (-(m : Int))] W fun e w' => e = .returned (.string y) ∧ Kept W w' :=
    ⟨⟨(encInt (-(m : Int))).toArray⟩, rfl, fun W => RefInt_any (-(m : Int)) (by omega) (by omega) W⟩
  have hey : (y.toList == (s ++ ⟨#[59]⟩ : ByteArray).toList) = true := eq_yes _ _ (by rw [hy, semi, hs]; unfold encInt; rw [Lib.itoa_neg m hm1])
  have hend : val ((Lib.decDigits m).take (s.size - 1)) = m := by rw [hsz, Nat.add_sub_cancel, List.take_length]; exact hvm
  have hadd : ¬ 9223372036854775807 < s.size + 1 := by omega
  have HG := Lib.hid hg
  have HV := Lib.hid hvl
  have HC := Lib.hid hcall
  have HE := Lib.hid hend
  have hs2 : 2 ≤ s.size := by omega
  clear hlen hsz hs hne hg hd0 hvm hvl hcall hend hy
  go_enter Tryd.func61, Tryd.ntmps61
  go_wp2
  go_loop [5, 6] (fun nv iv => ∃ (k : Nat) (z : Int), iv = .int .i64 (k + 1 : Nat) ∧ nv = .int .i64 z ∧ k + 1 ≤ s.size ∧ Hid (z = -(val ((Lib.decDigits m).take k) : Int)) ∧ -9223372036854775808 ≤ z ∧ z ≤ 0) (fun _ iv => s.size - (intOf iv).toNat)
  case atStart => exact ⟨0, 0, rfl, rfl, by omega, rfl, by omega, by omega⟩
  case round =>
    obtain ⟨k, z, rfl, rfl, hk, hv, hz1, hz2⟩ := hrel
    by_cases hlt : k + 1 < s.size
    · obtain ⟨h1, h2⟩ := HG.out k hlt
      obtain ⟨d1, d2⟩ := (dg_iff _).1 h1
      have e1 : (48 : Int) ≤ s[k + 1].toNat := by omega
      have e2 : (s[k + 1].toNat : Int) ≤ 57 := by omega
      obtain ⟨d, hdd⟩ : ∃ d : Nat, s[k + 1].toNat - 48 = d := ⟨_, rfl⟩
      have hsub : IntKind.u8.wrap ((s[k + 1].toNat : Int) - 48) = (d : Int) := by rw [u8_sub _ d1, hdd]
      have hsub2 : (s[k + 1].toNat : Int) - 48 = (d : Int) := by omega
      have hnx : Hid (10 * z - (d : Int) = -(val ((Lib.decDigits m).take (k + 1)) : Int)) := by
        show _ = _
        rw [h2, hv.out, hdd]; omega
      have hbig := HV.out (k + 1)
      have hb2 : -9223372036854775808 ≤ 10 * z - (d : Int) := by rw [hnx.out]; omega
      have hd9 : (d : Int) ≤ 9 := by omega
      have hd00 : (0 : Int) ≤ d := by omega
      clear h1 h2 d1 d2 hdd hbig
      go_wp2
      go_round
      case rel => exact ⟨k + 1, 10 * z - d, by go_num, rfl, by omega, hnx, hb2, by omega⟩
      case measure => simp only [intOf]; omega
    · have hke : k = s.size - 1 := by omega
      have hzm : z = -(m : Int) := by rw [hv.out, hke, HE.out]
      clear hke hv
      subst hzm
      go_wp2_with (go_at_call 13; refine (HC.out _).mono ?_; rintro e w1 ⟨rfl, b1⟩)
      go_wp2
      go_ret2
      exact ⟨rfl, b1⟩
def BackNo (w : World) (e : Ending) (w' : World) : Prop := (∃ v, e = .returned (.tuple #[.int .i64 v, .bool false])) ∧ Kept w w'
theorem wrap64_in (n : Int) : I64R (wrap64 n) := by unfold I64R wrap64; omega

set_option maxRecDepth 100000 in
set_option maxHeartbeats 1000000 in
theorem back_no0 (s : ByteArray) (hs : s.size ≤ 21) (hno : ∀ u, I64R u → Lib.itoa u ≠ s.data.toList) (hm : ∀ h : 0 < s.size, s[0] ≠ 45) (w : World) :
    Calls Tryd.prog 61 #[.string s] w (BackNo w) := by
  have hcall : ∀ u, I64R u → ∃ y : ByteArray, (y.toList == (s ++ ⟨#[59]⟩ : ByteArray).toList) = false ∧ ∀ W : World, Calls Tryd.prog 13 #[.int .i64 u] W fun e w' => e = .returned (.string y) ∧ Kept W w' := fun u hu =>
    ⟨⟨(encInt u).toArray⟩, eq_no _ _ (by
      rw [semi]
      show Lib.itoa u ++ [59] ≠ _
      exact fun e => hno u hu (List.append_cancel_right e)), fun W => RefInt_any u hu.1 hu.2 W⟩
  have HC := Lib.hid hcall
  have hadd : ¬ 9223372036854775807 < s.size + 1 := by omega
  have hz : ∀ h : 0 < s.size, ((s[0].toNat : Int) == 45) = false := fun h => by
    rw [beq_eq_false_iff_ne]; intro e; exact hm h (UInt8.toNat_inj.1 (by show s[0].toNat = 45; omega))
  have HZ := Lib.hid hz
  clear hcall hno hm hz
  by_cases h0 : 0 < s.size
  · have h0i : (0 : Int) < s.size := by omega
    have hz := HZ.out h0
    go_enter Tryd.func61, Tryd.ntmps61
    go_wp2
    go_loop [5, 6] (fun nv iv => ∃ (k : Nat) (z : Int), iv = .int .i64 k ∧ nv = .int .i64 z ∧ k ≤ s.size ∧ -9223372036854775808 ≤ z ∧ z ≤ 9223372036854775807) (fun _ iv => s.size - (intOf iv).toNat)
    case atStart => exact ⟨0, 0, rfl, rfl, Nat.zero_le _, by omega, by omega⟩
    case round =>
      obtain ⟨k, z, rfl, rfl, hk, hz1, hz2⟩ := hrel
      by_cases hlt : k < s.size
      · have hk20 : (k : Int) ≤ 20 := by omega
        by_cases h48 : s[k].toNat < 48
        · have e1 : (s[k].toNat : Int) < 48 := by omega
          go_wp2
          go_ret2
          exact ⟨⟨0, rfl⟩, Kept.refl _⟩
        · have e1 : (48 : Int) ≤ s[k].toNat := by omega
          by_cases h57 : 57 < s[k].toNat
          · have e2 : (57 : Int) < s[k].toNat := by omega
            go_wp2
            go_ret2
            exact ⟨⟨0, rfl⟩, Kept.refl _⟩
          · have e2 : (s[k].toNat : Int) ≤ 57 := by omega
            obtain ⟨d, hdd⟩ : ∃ d : Nat, s[k].toNat - 48 = d := ⟨_, rfl⟩
            have hsub : IntKind.u8.wrap ((s[k].toNat : Int) - 48) = (d : Int) := by rw [u8_sub _ (by omega), hdd]
            have hsub2 : (s[k].toNat : Int) - 48 = (d : Int) := by omega
            have hd9 : (d : Int) ≤ 9 := by omega
            clear hdd
            go_wp2
            go_round
            case rel =>
              refine ⟨k + 1, _, by go_num, rfl, by omega, ?_, ?_⟩
              · exact (wrap64_in _).1
              · exact (wrap64_in _).2
            case measure => simp only [intOf]; omega
      · obtain ⟨y, hy, hcy⟩ := HC.out (wrap64 (-z)) (wrap64_in _)
        have HCy := Lib.hid hcy
        clear hcy
        go_wp2_with (go_at_call 13; refine (HCy.out _).mono ?_; rintro e w1 ⟨rfl, b1⟩)
        go_wp2
        go_ret2
        exact ⟨⟨_, rfl⟩, b1⟩
  · have h0i : (s.size : Int) ≤ 0 := by omega
    have hle : s.size ≤ 0 := by omega
    clear h0
    go_enter Tryd.func61, Tryd.ntmps61
    go_wp2
    go_loop [5, 6] (fun nv iv => ∃ (k : Nat) (z : Int), iv = .int .i64 k ∧ nv = .int .i64 z ∧ k ≤ s.size ∧ -9223372036854775808 ≤ z ∧ z ≤ 9223372036854775807) (fun _ iv => s.size - (intOf iv).toNat)
    case atStart => exact ⟨0, 0, rfl, rfl, Nat.zero_le _, by omega, by omega⟩
    case round =>
      obtain ⟨k, z, rfl, rfl, hk, hz1, hz2⟩ := hrel
      have hlt : ¬ k < s.size := by omega
      obtain ⟨y, hy, hcy⟩ := HC.out (wrap64 (-z)) (wrap64_in _)
      have HCy := Lib.hid hcy
      clear hcy
      go_wp2_with (go_at_call 13; refine (HCy.out _).mono ?_; rintro e w1 ⟨rfl, b1⟩)
      go_wp2
      go_ret2
      exact ⟨⟨_, rfl⟩, b1⟩
set_option maxRecDepth 100000 in
set_option maxHeartbeats 1000000 in
theorem back_no1 (s : ByteArray) (hs : s.size ≤ 21) (hno : ∀ u, I64R u → Lib.itoa u ≠ s.data.toList) (h0 : 0 < s.size) (hm : s[0] = 45) (w : World) :
    Calls Tryd.prog 61 #[.string s] w (BackNo w) := by
  have hcall : ∀ u, I64R u → ∃ y : ByteArray, (y.toList == (s ++ ⟨#[59]⟩ : ByteArray).toList) = false ∧ ∀ W : World, Calls Tryd.prog 13 #[.int .i64 u] W fun e w' => e = .returned (.string y) ∧ Kept W w' := fun u hu =>
    ⟨⟨(encInt u).toArray⟩, eq_no _ _ (by
      rw [semi]
      show Lib.itoa u ++ [59] ≠ _
      exact fun e => hno u hu (List.append_cancel_right e)), fun W => RefInt_any u hu.1 hu.2 W⟩
  have HC := Lib.hid hcall
  have hadd : ¬ 9223372036854775807 < s.size + 1 := by omega
  have hz : ((s[0].toNat : Int) == 45) = true := by rw [hm]; rfl
  have hzi : (s[0].toNat : Int) = 45 := by rw [hm]; rfl
  clear hcall hno hm
  have h0i : (0 : Int) < s.size := by omega
  go_enter Tryd.func61, Tryd.ntmps61
  go_wp2
  go_loop [5, 6] (fun nv iv => ∃ (k : Nat) (z : Int), iv = .int .i64 k ∧ nv = .int .i64 z ∧ 1 ≤ k ∧ k ≤ s.size ∧ -9223372036854775808 ≤ z ∧ z ≤ 9223372036854775807) (fun _ iv => s.size - (intOf iv).toNat)
  case atStart => exact ⟨1, 0, rfl, rfl, by omega, by omega, by omega, by omega⟩
  case round =>
    obtain ⟨k, z, rfl, rfl, hk1, hk, hz1, hz2⟩ := hrel
    by_cases hlt : k < s.size
    · have hk20 : (k : Int) ≤ 20 := by omega
      by_cases h48 : s[k].toNat < 48
      · have e1 : (s[k].toNat : Int) < 48 := by omega
        go_wp2
        go_ret2
        exact ⟨⟨0, rfl⟩, Kept.refl _⟩
      · have e1 : (48 : Int) ≤ s[k].toNat := by omega
        by_cases h57 : 57 < s[k].toNat
        · have e2 : (57 : Int) < s[k].toNat := by omega
          go_wp2
          go_ret2
          exact ⟨⟨0, rfl⟩, Kept.refl _⟩
        · have e2 : (s[k].toNat : Int) ≤ 57 := by omega
          obtain ⟨d, hdd⟩ : ∃ d : Nat, s[k].toNat - 48 = d := ⟨_, rfl⟩
          have hsub : IntKind.u8.wrap ((s[k].toNat : Int) - 48) = (d : Int) := by rw [u8_sub _ (by omega), hdd]
          have hsub2 : (s[k].toNat : Int) - 48 = (d : Int) := by omega
          have hd9 : (d : Int) ≤ 9 := by omega
          clear hdd
          go_wp2
          go_round
          case rel =>
            refine ⟨k + 1, _, by go_num, rfl, by omega, by omega, ?_, ?_⟩
            · exact (wrap64_in _).1
            · exact (wrap64_in _).2
          case measure => simp only [intOf]; omega
    · obtain ⟨y, hy, hcy⟩ := HC.out z ⟨hz1, hz2⟩
      have HCy := Lib.hid hcy
      clear hcy
      go_wp2_with (go_at_call 13; refine (HCy.out _).mono ?_; rintro e w1 ⟨rfl, b1⟩)
      go_wp2
      go_ret2
      exact ⟨⟨_, rfl⟩, b1⟩
theorem back_no (s : ByteArray) (hs : s.size ≤ 21) (hno : ∀ u, I64R u → Lib.itoa u ≠ s.data.toList) (w : World) : Calls Tryd.prog 61 #[.string s] w (BackNo w) := by
  by_cases h : ∃ h : 0 < s.size, s[0] = 45
  · obtain ⟨h0, hm⟩ := h
    exact back_no1 s hs hno h0 hm w
  · exact back_no0 s hs hno (fun h0 hm => h ⟨h0, hm⟩) w
theorem back_yes (u : Int) (hu : I64R u) (s : ByteArray) (hs : s.data.toList = Lib.itoa u) (w : World) : Calls Tryd.prog 61 #[.string s] w (RetKept (.tuple #[.int .i64 u, .bool true]) w) := by
  obtain ⟨h0, h1⟩ := hu
  rcases Int.lt_or_le u 0 with h | h
  · obtain ⟨m, rfl⟩ : ∃ m : Nat, u = -(m : Int) := ⟨u.natAbs, by omega⟩
    rw [Lib.itoa_neg m (by omega)] at hs
    exact back_neg m (by omega) (by omega) s hs w
  · obtain ⟨m, rfl⟩ : ∃ m : Nat, u = (m : Int) := ⟨u.toNat, by omega⟩
    rw [Lib.itoa_nonneg] at hs
    exact back_pos m (by omega) s hs w
end Go.Proofs.YtonfkmoocgpleaaDoor
