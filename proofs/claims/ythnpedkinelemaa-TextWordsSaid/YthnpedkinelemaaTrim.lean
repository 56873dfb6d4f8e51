/- Trim. -/
import Derived.Test.YthnpedkinelemaaSame
import Derived.Test.YthnpedkinelemaaWordsPlain
import Derived.Lib.Strings
namespace Go.Proofs.Ythnpedkinelemaa
open Go.RowKit

theorem getD_data (s : ByteArray) (j : Nat) (h : j < s.size) : s.data.toList.getD j 0 = s[j] := by
  rw [getD_lt _ _ (by simpa using h)]; rfl
theorem string_eq {s t : ByteArray} (h : s.data.toList = t.data.toList) : s = t := by
  obtain ⟨⟨a⟩⟩ := s; obtain ⟨⟨b⟩⟩ := t; simp at h; rw [h]
theorem string_mk (l : List UInt8) : (⟨l.toArray⟩ : ByteArray).data.toList = l := rfl
theorem ret_string {s t : ByteArray} (h : s.data.toList = t.data.toList) : Ending.returned (.string s) = .returned (.string t) := by rw [string_eq h]

set_option maxHeartbeats 1000000 in
theorem Trim_any (s : ByteArray) (w : World) (hs : s.size ≤ 1000000) :
    Calls Try.prog 15 #[.string s] w fun e w' => e = .returned (.string ⟨(trimP whiteB s.data.toList).toArray⟩) ∧ w = w' := by
  have hsl : s.data.toList.length = s.size := by simp
  have HL := Lib.hid hsl
  clear hsl
  go_enter Try.func15, Try.ntmps15
  go_wp2
  go_loop [3] (fun f => ∃ k : Nat, k ≤ s.size ∧ f = .int .i64 k ∧ Hid (∀ j, j < k → whiteB (s.data.toList.getD j 0) = true)) (fun f => s.size - (intOf f).toNat)
  case atStart => exact ⟨0, Nat.zero_le _, rfl, fun j h => by omega⟩
  case round =>
    obtain ⟨k, hk, rfl, h1⟩ := hrel
    by_cases hw : ∃ h : k < s.size, whiteB s[k] = true
    · obtain ⟨hlt, hw⟩ := hw
      have HW : Hid (whiteB s[k] = true) := hw
      have hc : ∀ w : World, Calls Try.prog 27 #[.int .u8 (s[k].toNat : Int)] w fun e w' => e = .returned (.bool true) ∧ w = w' := fun w => by
        rw [← hw]; exact white_any _ _
      have HC := Lib.hid hc
      clear hw hc
      go_wp2_with (go_at_call 27; refine (HC.out _).mono ?_; rintro e w1 ⟨rfl, rfl⟩)
      go_round
      case rel =>
        refine ⟨k + 1, by omega, by go_num, fun j hj => ?_⟩
        rcases Nat.lt_or_ge j k with h | h
        · exact h1 j h
        · obtain rfl : j = k := by omega
          rw [getD_data _ _ hlt]; exact HW.out
      case measure => simp [intOf]; omega
    · have h2 : k = s.size ∨ whiteB (s.data.toList.getD k 0) = false := by
        rcases Nat.lt_or_ge k s.size with h | h
        · right; rw [getD_data _ _ h]; rw [Bool.eq_false_iff]; exact fun e => hw ⟨h, e⟩
        · left; omega
      have H2 := Lib.hid h2
      have hcf : ∀ (h : k < s.size) (w : World), Calls Try.prog 27 #[.int .u8 (s[k].toNat : Int)] w fun e w' => e = .returned (.bool false) ∧ w = w' := fun h w => by
        have e : whiteB s[k] = false := by rw [Bool.eq_false_iff]; exact fun e => hw ⟨h, e⟩
        rw [← e]; exact white_any _ _
      have HC := Lib.hid hcf
      clear hw h2 hcf
      by_cases hlt : k < s.size
      · go_wp2_with (go_at_call 27; refine (HC.out hlt _).mono ?_; rintro e w1 ⟨rfl, rfl⟩)
        go_loop [4] (fun f => ∃ u : Nat, k ≤ u ∧ u ≤ s.size ∧ f = .int .i64 u ∧ Hid (∀ j, u ≤ j → j < s.size → whiteB (s.data.toList.getD j 0) = true)) (fun f => (intOf f).toNat)
        case atStart => exact ⟨s.size, by omega, Nat.le_refl _, rfl, fun j h h' => by omega⟩
        case round =>
          obtain ⟨u, hku, hus, rfl, h3⟩ := hrel
          by_cases hw : ∃ _ : k < u, ∃ h : u - 1 < s.size, whiteB s[u - 1] = true
          · obtain ⟨hlu, hus1, hw⟩ := hw
            have HW : Hid (whiteB s[u - 1] = true) := hw
            have hc : ∀ w : World, Calls Try.prog 27 #[.int .u8 (s[u - 1].toNat : Int)] w fun e w' => e = .returned (.bool true) ∧ w = w' := fun w => by
              rw [← hw]; exact white_any _ _
            have HC2 := Lib.hid hc
            clear hw hc
            go_wp2_with (go_at_call 27; refine (HC2.out _).mono ?_; rintro e w1 ⟨rfl, rfl⟩)
            go_round
            case rel =>
              refine ⟨u - 1, by omega, by omega, by go_num, fun j hj hj2 => ?_⟩
              rcases Nat.lt_or_ge j u with h | h
              · obtain rfl : j = u - 1 := by omega
                rw [getD_data _ _ hus1]; exact HW.out
              · exact h3 j h hj2
            case measure => simp [intOf]; omega
          · have h4 : k = u ∨ whiteB (s.data.toList.getD (u - 1) 0) = false := by
              rcases Nat.lt_or_ge k u with h | h
              · right
                have hu1 : u - 1 < s.size := by omega
                rw [getD_data _ _ hu1, Bool.eq_false_iff]; exact fun e => hw ⟨h, hu1, e⟩
              · left; omega
            have hc2 : ∀ (_ : k < u) (h : u - 1 < s.size) (w : World), Calls Try.prog 27 #[.int .u8 (s[u - 1].toNat : Int)] w fun e w' => e = .returned (.bool false) ∧ w = w' := fun hl h w => by
              have e : whiteB s[u - 1] = false := by rw [Bool.eq_false_iff]; exact fun e => hw ⟨hl, h, e⟩
              rw [← e]; exact white_any _ _
            have HC2 := Lib.hid hc2
            have HR : Hid ((s.extract k u).data.toList = trimP whiteB s.data.toList) := by
              have h := trim_of whiteB s.data.toList k u hku (by rw [HL.out]; exact hus) h1 (by rw [HL.out]; exact H2.out) (fun j a b => h3 j a (by rw [HL.out] at b; exact b)) h4
              rw [h]; exact Lib.extract_data s k u
            clear hw h4 hc2
            by_cases hlu : k < u
            · have hu1 : u - 1 < s.size := by omega
              go_wp2_with (go_at_call 27; refine (HC2.out hlu hu1 _).mono ?_; rintro e w1 ⟨rfl, rfl⟩)
              go_ret
              exact ⟨ret_string (by rw [string_mk]; exact HR.out), rfl⟩
            · go_wp2
              go_ret
              exact ⟨ret_string (by rw [string_mk]; exact HR.out), rfl⟩
      · obtain rfl : k = s.size := by omega
        clear HC
        go_wp2
        go_loop [4] (fun f => f = .int .i64 s.size) (fun _ => 0)
        case atStart => rfl
        case round =>
          subst hrel
          have HR : Hid (ByteArray.empty.data.toList = trimP whiteB s.data.toList) := by
            have h := trim_of whiteB s.data.toList s.size s.size (Nat.le_refl _) (by rw [HL.out]; exact Nat.le_refl _) h1 (.inl HL.out.symm) (fun j a b => by rw [HL.out] at b; omega) (.inl rfl)
            show _ = _
            rw [h, Nat.sub_self, List.take_zero]; rfl
          go_wp2
          go_ret
          exact ⟨ret_string (by rw [string_mk]; exact HR.out), rfl⟩
end Go.Proofs.Ythnpedkinelemaa
