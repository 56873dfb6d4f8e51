/- The law TextCases, walked. -/
import Derived.Test.YthnpedkinelemaaSmallWalk
namespace Go.Proofs.Ythnpedkinelemaa
open Go.RowKit Go.Shelf

theorem all_u8 {p : UInt8 → Prop} (h : ∀ n : Fin 256, p (UInt8.ofNat n.val)) (c : UInt8) : p c := by
  have := h ⟨c.toNat, c.toNat_lt⟩
  simpa using this
theorem low_low : ∀ c : UInt8, lowB (lowB c) = lowB c := all_u8 (by decide +kernel)
theorem upp_upp : ∀ c : UInt8, uppB (uppB c) = uppB c := all_u8 (by decide +kernel)
theorem low_upp : ∀ c : UInt8, lowB (uppB c) = lowB c := all_u8 (by decide +kernel)
theorem upp_low : ∀ c : UInt8, uppB (lowB c) = uppB c := all_u8 (by decide +kernel)

def lowS (s : ByteArray) : ByteArray := ⟨(s.data.toList.map lowB).toArray⟩
def uppS (s : ByteArray) : ByteArray := ⟨(s.data.toList.map uppB).toArray⟩

theorem lowS_size (s : ByteArray) : (lowS s).size = s.size := by
  show (s.data.toList.map lowB).toArray.size = s.data.size
  rw [List.size_toArray, List.length_map, Array.length_toList]
theorem uppS_size (s : ByteArray) : (uppS s).size = s.size := by
  show (s.data.toList.map uppB).toArray.size = s.data.size
  rw [List.size_toArray, List.length_map, Array.length_toList]
theorem map_map_eq {f g h : UInt8 → UInt8} (l : List UInt8) (e : ∀ c, f (g c) = h c) : (l.map g).map f = l.map h := by
  rw [List.map_map]; exact List.map_congr_left fun c _ => e c
theorem lowS_lowS (s : ByteArray) : lowS (lowS s) = lowS s := string_eq (map_map_eq (h := lowB) _ low_low)
theorem uppS_uppS (s : ByteArray) : uppS (uppS s) = uppS s := string_eq (map_map_eq (h := uppB) _ upp_upp)
theorem lowS_uppS (s : ByteArray) : lowS (uppS s) = lowS s := string_eq (map_map_eq (h := lowB) _ low_upp)
theorem uppS_lowS (s : ByteArray) : uppS (lowS s) = uppS s := string_eq (map_map_eq (h := uppB) _ upp_low)
theorem same_upp (s t : ByteArray) : sameB s t = decide (uppS s = uppS t) := by
  unfold sameB
  rw [decide_eq_decide]
  constructor
  · intro h
    rw [← uppS_lowS s, ← uppS_lowS t]
    have : lowS s = lowS t := string_eq h
    rw [this]
  · intro h
    have : lowS s = lowS t := by rw [← lowS_uppS s, ← lowS_uppS t, h]
    exact congrArg (fun b : ByteArray => b.data.toList) this
theorem same_self_upp (s : ByteArray) : sameB s (uppS s) = true := by rw [same_upp, uppS_uppS]; simp

theorem low_cases : ∀ c : UInt8, (lowB c).toNat = c.toNat ∨ ((lowB c).toNat = c.toNat + 32 ∧ 97 ≤ (lowB c).toNat ∧ (lowB c).toNat ≤ 122) := all_u8 (by decide +kernel)
theorem lowS_get (s : ByteArray) (k : Nat) (h : k < (lowS s).size) (h' : k < s.size) : (lowS s)[k] = lowB s[k] := by
  have h2 : k < (s.data.toList.map lowB).length := by rw [List.length_map]; exact h'
  have : (s.data.toList.map lowB)[k]'h2 = lowB (s.data.toList[k]'(by simpa using h2)) := List.getElem_map ..
  exact this

set_option maxRecDepth 100000 in
set_option maxHeartbeats 1000000 in
theorem cases_any (s t : ByteArray) (w : World) :
    Calls Try.prog 6 #[.string s, .string t] w fun e w' => e = .returned (.bool true) ∧ Below w.heap.size w w' := by
  by_cases hbig : 300 < s.size ∨ 300 < t.size
  · have h1 : (300 : Int) < s.size ∨ (300 : Int) < t.size := by omega
    go_enter Try.func6, Try.ntmps6
    go_wp2_with (go_at_call 7; refine (small_any _).mono ?_; rintro e w1 ⟨rfl, b1⟩)
    all_goals (try go_ret; try exact ⟨rfl, b1⟩)
    all_goals omega
  have hs1 : (s.size : Int) ≤ 300 := by omega
  have ht1 : (t.size : Int) ≤ 300 := by omega
  have hs2 : s.size ≤ 1000000 := by omega
  have ht2 : t.size ≤ 1000000 := by omega
  clear hbig
  obtain ⟨a, ha⟩ : ∃ a, lowS s = a := ⟨_, rfl⟩
  obtain ⟨b, hb⟩ : ∃ b, uppS s = b := ⟨_, rfl⟩
  have hA : ∀ w, Calls Try.prog 17 #[.string s] w fun e w' => e = .returned (.string a) ∧ Below w.heap.size w w' := fun w => by rw [← ha]; exact Lower_any s w hs2
  have hB : ∀ w, Calls Try.prog 18 #[.string s] w fun e w' => e = .returned (.string b) ∧ Below w.heap.size w w' := fun w => by rw [← hb]; exact Upper_any s w hs2
  have hAs : a.size = s.size := by rw [← ha]; exact lowS_size s
  have hBs : b.size = s.size := by rw [← hb]; exact uppS_size s
  have hAA : ∀ w, Calls Try.prog 17 #[.string a] w fun e w' => e = .returned (.string a) ∧ Below w.heap.size w w' := fun w => by
    have := Lower_any a w (by omega)
    rw [← ha] at this ⊢; rw [show (⟨((lowS s).data.toList.map lowB).toArray⟩ : ByteArray) = lowS s from lowS_lowS s] at this; exact this
  have hAB : ∀ w, Calls Try.prog 17 #[.string b] w fun e w' => e = .returned (.string a) ∧ Below w.heap.size w w' := fun w => by
    have := Lower_any b w (by omega)
    rw [← ha]; rw [← hb] at this ⊢; rw [show (⟨((uppS s).data.toList.map lowB).toArray⟩ : ByteArray) = lowS s from lowS_uppS s] at this; exact this
  have hBB : ∀ w, Calls Try.prog 18 #[.string b] w fun e w' => e = .returned (.string b) ∧ Below w.heap.size w w' := fun w => by
    have := Upper_any b w (by omega)
    rw [← hb] at this ⊢; rw [show (⟨((uppS s).data.toList.map uppB).toArray⟩ : ByteArray) = uppS s from uppS_uppS s] at this; exact this
  have hBA : ∀ w, Calls Try.prog 18 #[.string a] w fun e w' => e = .returned (.string b) ∧ Below w.heap.size w w' := fun w => by
    have := Upper_any a w (by omega)
    rw [← hb]; rw [← ha] at this ⊢; rw [show (⟨((lowS s).data.toList.map uppB).toArray⟩ : ByteArray) = uppS s from uppS_lowS s] at this; exact this
  have HA := Lib.hid hA
  have HB := Lib.hid hB
  have HAA := Lib.hid hAA
  have HAB := Lib.hid hAB
  have HBA := Lib.hid hBA
  have HBB := Lib.hid hBB
  clear hA hB hAA hAB hBA hBB
  go_enter Try.func6, Try.ntmps6
  go_wp2_with (first
    | (go_at_call 7; refine (small_any _).mono ?_; rintro e w1 ⟨rfl, b1⟩)
    | (go_at_call 17; refine (HA.out _).mono ?_; rintro e w2 ⟨rfl, b2⟩)
    | (go_at_call 18; refine (HB.out _).mono ?_; rintro e w3 ⟨rfl, b3⟩)
    | (go_at_call 17; refine (HAA.out _).mono ?_; rintro e w4 ⟨rfl, b4⟩)
    | (go_at_call 17; refine (HAB.out _).mono ?_; rintro e w6 ⟨rfl, b6⟩)
    | (go_at_call 18; refine (HBB.out _).mono ?_; rintro e w5 ⟨rfl, b5⟩)
    | (go_at_call 18; refine (HBA.out _).mono ?_; rintro e w7 ⟨rfl, b7⟩))
  have l2 := b2.size; have l3 := b3.size; have l4 := b4.size; have l5 := b5.size; have l6 := b6.size; have l7 := b7.size; have l1 := b1.size
  have hB7 : Below w.heap.size w w7 := (((((b1.trans (b2.mono l1)).trans (b3.mono (by omega))).trans (b4.mono (by omega))).trans (b5.mono (by omega))).trans (b6.mono (by omega))).trans (b7.mono (by omega))
  have hget : ∀ k (h : k < a.size) (h' : k < s.size), (a[k].toNat : Int) = s[k].toNat ∨ ((a[k].toNat : Int) = s[k].toNat + 32 ∧ (97 : Int) ≤ a[k].toNat ∧ (a[k].toNat : Int) ≤ 122) := by
    intro k h h'
    have e : a[k] = lowB s[k] := by subst ha; exact lowS_get s k h h'
    rw [e]
    rcases low_cases s[k] with h1 | ⟨h1, h2, h3⟩
    · left; omega
    · right; omega
  have HG := Lib.hid hget
  clear hget b1 b2 b3 b4 b5 b6 b7 l1 l2 l3 l4 l5 l6 l7
  go_loopw [8] (fun i wr => ∃ k : Nat, k ≤ s.size ∧ i = .int .i64 k ∧ Below w.heap.size w wr) (fun i _ => s.size - (intOf i).toNat)
  case atStart => exact ⟨0, Nat.zero_le _, rfl, hB7⟩
  case round =>
    obtain ⟨k, hk, rfl, hbw⟩ := hrel
    by_cases hlt : k < s.size
    · have hlt2 : k < a.size := by omega
      rcases HG.out k hlt2 hlt with h1 | ⟨h1, h2, h3⟩
      · have hq : ((a[k].toNat : Int) != (s[k].toNat : Int)) = false := by rw [h1]; simp
        have hi : (k : Int) < (a.size : Int) := by omega
        go_wp2
        go_quiet (fail)
        go_wp2
        go_roundw
        case rel => exact ⟨k + 1, by omega, by go_num, below_drewN hbw _⟩
        case measure => simp [intOf]; omega
      · have hq : ((s[k].toNat : Int) + 32 != (s[k].toNat : Int)) = true := by simp only [bne_iff_ne]; omega
        have h4 : (97 : Int) ≤ s[k].toNat + 32 := by omega
        have h5 : (s[k].toNat : Int) + 32 ≤ 122 := by omega
        have hi : (k : Int) < (a.size : Int) := by omega
        have hw : IntKind.u8.wrap ((s[k].toNat : Int) + 32 - (s[k].toNat : Int)) = 32 := by
          have e : (s[k].toNat : Int) + 32 - (s[k].toNat : Int) = 32 := by omega
          rw [e]; rfl
        have hq3 : (decide ((s[k].toNat : Int) + 32 < 97) || decide (122 < (s[k].toNat : Int) + 32) || IntKind.u8.wrap ((s[k].toNat : Int) + 32 - (s[k].toNat : Int)) != 32) = false := by
          rw [hw, decide_eq_false (by omega), decide_eq_false (by omega)]; rfl
        have H1 := Lib.hid h1
        go_wp2
        go_quiet (fail)
        have H4 := Lib.hid h4
        have H5 := Lib.hid h5
        clear h4 h5 h2 h3 hw h1 hq3 hq
        go_wp2
        · exfalso; rename_i h; have := H4.out; have := H5.out; omega
        · go_roundw
          case rel => exact ⟨k + 1, by omega, by go_num, below_drewN hbw _⟩
          case measure => simp only [intOf]; omega
    · obtain ⟨c, hcc⟩ : ∃ c, uppS t = c := ⟨_, rfl⟩
      have hC : ∀ w, Calls Try.prog 18 #[.string t] w fun e w' => e = .returned (.string c) ∧ Below w.heap.size w w' := fun w => by rw [← hcc]; exact Upper_any t w ht2
      have hS2 : ∀ w, Calls Try.prog 12 #[.string s, .string b] w fun e w' => e = .returned (.bool true) ∧ Below w.heap.size w w' := fun w => by
        have := Same_any s b w hs2
        rw [← hb] at this ⊢; rwa [same_self_upp] at this
      have hS1 : ∀ w, Calls Try.prog 12 #[.string s, .string t] w fun e w' => e = .returned (.bool (decide (b = c))) ∧ Below w.heap.size w w' := fun w => by
        have := Same_any s t w hs2
        rwa [same_upp, hb, hcc] at this
      have HC := Lib.hid hC
      have HS2 := Lib.hid hS2
      clear hC hS2
      by_cases hbc : b = c
      · subst hbc
        have hS3 : ∀ w, Calls Try.prog 12 #[.string s, .string t] w fun e w' => e = .returned (.bool true) ∧ Below w.heap.size w w' := fun w => by
          have := hS1 w; rwa [decide_eq_true rfl] at this
        have HS1 := Lib.hid hS3
        clear hS1 hS3
        clear HG hAs hBs HA HAA HAB HBA HBB hs1 ht1 hs2 ht2
        go_wp2_with (go_at_call 12; refine (HS1.out _).mono ?_)
        rintro e w8 ⟨rfl, b8⟩
        go_wp2_with (go_at_call 18; refine (HB.out _).mono ?_)
        rintro e w9 ⟨rfl, b9⟩
        go_wp2_with (go_at_call 18; refine (HC.out _).mono ?_)
        rintro e w10 ⟨rfl, b10⟩
        go_wp2_with (go_at_call 12; refine (HS2.out _).mono ?_)
        rintro e w11 ⟨rfl, b11⟩
        go_wp2
        have l8 := b8.size; have l9 := b9.size; have l10 := b10.size; have l0 := hbw.size
        go_ret
        exact ⟨rfl, (((hbw.trans (b8.mono l0)).trans (b9.mono (by omega))).trans (b10.mono (by omega))).trans (b11.mono (by omega))⟩
      · have hS3 : ∀ w, Calls Try.prog 12 #[.string s, .string t] w fun e w' => e = .returned (.bool false) ∧ Below w.heap.size w w' := fun w => by
          have := hS1 w; rwa [decide_eq_false hbc] at this
        have hbc2 : (b.toList == c.toList) = false := by
          simp only [beq_eq_false_iff_ne]; intro e; rw [Lib.toList_data, Lib.toList_data] at e; exact hbc (string_eq e)
        have HS1 := Lib.hid hS3
        clear hS1 hS3 hbc
        clear HG hAs hBs HA HAA HAB HBA HBB hs1 ht1 hs2 ht2
        go_wp2_with (go_at_call 12; refine (HS1.out _).mono ?_)
        rintro e w8 ⟨rfl, b8⟩
        go_wp2_with (go_at_call 18; refine (HB.out _).mono ?_)
        rintro e w9 ⟨rfl, b9⟩
        go_wp2_with (go_at_call 18; refine (HC.out _).mono ?_)
        rintro e w10 ⟨rfl, b10⟩
        go_wp2_with (go_at_call 12; refine (HS2.out _).mono ?_)
        rintro e w11 ⟨rfl, b11⟩
        go_wp2
        have l8 := b8.size; have l9 := b9.size; have l10 := b10.size; have l0 := hbw.size
        go_ret
        exact ⟨rfl, (((hbw.trans (b8.mono l0)).trans (b9.mono (by omega))).trans (b10.mono (by omega))).trans (b11.mono (by omega))⟩
end Go.Proofs.Ythnpedkinelemaa
