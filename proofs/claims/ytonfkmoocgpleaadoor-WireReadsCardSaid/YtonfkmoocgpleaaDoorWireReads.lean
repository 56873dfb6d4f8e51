/- The law WireReads, walked. -/
import Derived.Test.YtonfkmoocgpleaaDoorWireBack
import Derived.Test.YtonfkmoocgpleaaDoorSteps
namespace Go.Proofs.YtonfkmoocgpleaaDoor
open Go.RowKit

/-- Both readers stand alike. -/
def Pair (w : World) (p q : Nat) (r : ByteArray) (b : Bool) : Prop := RAt 53 w p r b ∧ RAt 55 w q r b
theorem Pair.kept {w w' : World} {p q : Nat} {r : ByteArray} {b : Bool} (h : Pair w p q r b) (hb : Kept w w') : Pair w' p q r b := ⟨h.1.kept hb, h.2.kept hb⟩

set_option maxRecDepth 100000 in
set_option maxHeartbeats 4000000 in
theorem reads_any (s : ByteArray) (v : Value) (xs : List Int) (w : World) (ht : Tab w) (hs : s.size ≤ 9223372036854775807) (hl : xs.length ≤ 9223372036854775807) (hv : Row (Value.int .i64) w w.heap.size v xs) :
    Calls Tryd.prog 4 #[.string s, v] w (TrueKept w) := by
  have HS := Lib.hid (small_any _ ht)
  obtain ⟨x, cap, rfl, hc⟩ := hv
  have HC := Lib.hid hc
  clear hc
  by_cases h4 : 400 < s.size
  · have e4 : (400 : Int) < s.size := by omega
    go_enter Tryd.func4, Tryd.ntmps4
    go_wp2_with (go_at_call 8; refine HS.out.mono ?_; rintro e w1 ⟨rfl, b1⟩)
    go_ret
    exact ⟨rfl, b1⟩
  · have e4 : (s.size : Int) ≤ 400 := by omega
    by_cases h20 : 20 < xs.length
    · have e5 : (20 : Int) < xs.length := by omega
      go_enter Tryd.func4, Tryd.ntmps4
      go_wp2_with (go_at_call 8; refine HS.out.mono ?_; rintro e w1 ⟨rfl, b1⟩)
      go_ret
      exact ⟨rfl, b1⟩
    · have e5 : (xs.length : Int) ≤ 20 := by omega
      go_enter Tryd.func4, Tryd.ntmps4
      go_wp2_with (go_at_call 8; refine HS.out.mono ?_)
      rintro e w1 ⟨rfl, b1⟩
      go_wp2_with (go_at_call 20; refine (rOpen_any _ _).mono ?_)
      rintro e w2 ⟨rfl, g2, b2⟩
      have k2 := b1.trans b2
      have hp : w.heap.size ≤ w1.heap.size := b1.size
      have hpl := g2.lt
      obtain ⟨p, hpe⟩ : ∃ p, p = w1.heap.size := ⟨_, rfl⟩
      rw [← hpe] at g2 hp hpl ⊢
      clear hpe b1 b2
      go_wp2_with (go_at_call 21; refine (fOpen_any _ _).mono ?_)
      rintro e w3 ⟨rfl, g3, b3⟩
      have k3 := k2.trans b3
      have hq : w.heap.size ≤ w2.heap.size := k2.size
      have g23 := g2.kept b3
      obtain ⟨q, hqe⟩ : ∃ q, q = w2.heap.size := ⟨_, rfl⟩
      rw [← hqe] at g3 hq hpl ⊢
      clear hqe b3 k2 g2
      have hpq : p ≠ q := by omega
      have hqp : q ≠ p := by omega
      have hP3 : Pair w3 p q s false := ⟨g23, g3⟩
      clear g23 g3
      go_wp2
      go_loopw [8] (fun iv wr => ∃ (i : Nat) (r : ByteArray) (b : Bool), iv = .int .i64 i ∧ i ≤ xs.length ∧ Pair wr p q r b ∧ Hid (b = true → r.data.toList = []) ∧ r.size ≤ 400 ∧ Kept w wr) (fun iv _ => xs.length - (intOf iv).toNat)
      case atStart => exact ⟨0, s, false, rfl, Nat.zero_le _, hP3, (fun h => by cases h), by omega, k3⟩
      case round =>
        clear hP3 k3 h4 e4
        obtain ⟨i, r, b, rfl, hi, hP, hb, hz, kr⟩ := hrel
        by_cases hli : i < xs.length
        · obtain ⟨bl, off, hbl, rfl, hcl⟩ := HC.out i hli
          have d := (Below.cell (p := ⟨bl, off + i, none⟩) kr hbl).trans hcl
          obtain ⟨a, ha⟩ : ∃ a, xs[i] = a := ⟨_, rfl⟩
          rw [ha] at d
          clear ha hcl hbl
          have HK := Lib.hid (fun n t lv tv (W : World) => kind_any a n t lv tv W)
          obtain ⟨k, hk⟩ : ∃ k, k = kindOf a := ⟨_, rfl⟩
          have hk5 : k < 5 := by rw [hk]; exact kind_lt _
          rw [← hk] at HK
          clear hk
          go_wp2_with (go_at_call 22; refine (HK.out _ _ _ _ _).mono ?_)
          rintro e w4 ⟨rfl, b4⟩
          have hP4 := hP.kept b4
          have k4 := kr.trans b4
          obtain ⟨g1, g2⟩ := hP4
          have hzb : r.size ≤ 1000000000 := by omega
          clear d HK hP b4 kr
          have hks : k = 0 ∨ k = 1 ∨ k = 2 ∨ k = 3 ∨ k = 4 := by omega
          clear hk5
          rcases hks with rfl | rfl | rfl | rfl | rfl
          · have hfacts := out_facts (res := numP 9223372036854775807 59 r.data.toList) (b := b) (fun v rest h => numP_less h) hb.out hz
            have hc1 := (rNum_any w4 p r b g1 hzb).mono (fun _ _ h => step_read (enc := fun n : Nat => Value.int .i64 n) (z := 0) rfl h)
            have hc2 := fun (W : World) (g : RAt 55 W q r b) => (fNum_any W q r b g hzb).mono (fun _ _ h => step_ref (enc := fun n : Nat => Value.int .i64 n) (z := 0) rfl h)
            obtain ⟨V, hV⟩ : ∃ V, V = outV 0 (numP 9223372036854775807 59 r.data.toList) := ⟨_, rfl⟩
            obtain ⟨R, hR⟩ : ∃ R, R = outR (numP 9223372036854775807 59 r.data.toList) := ⟨_, rfl⟩
            obtain ⟨B, hB⟩ : ∃ B, B = outB (numP 9223372036854775807 59 r.data.toList) b := ⟨_, rfl⟩
            rw [← hR, ← hB] at hfacts
            rw [← hV, ← hR, ← hB] at hc1
            simp only [← hV, ← hR, ← hB] at hc2
            obtain ⟨hRz, hRb⟩ := hfacts
            have H1 := Lib.hid hc1
            have H2 := Lib.hid hc2
            have HRb := Lib.hid hRb
            clear hc1 hc2 hV hR hB hRb hz
            go_wp2_with (go_at_call 23; refine H1.out.mono ?_)
            rintro e w5 ⟨rfl, g5, o5⟩
            have g25 := o5.other g2 hqp
            have k5 := k4.only o5 hp
            go_wp2_with (go_at_call 24; refine (H2.out _ g25).mono ?_)
            rintro e w6 ⟨rfl, g6, o6⟩
            have g16 := o6.other g5 hpq
            have k6 := k5.only o6 hq
            have HL1 := Lib.hid (rLeft_any w6 p R B g16)
            have HL2 := Lib.hid (fLeft_any w6 q R B g6)
            have hd1 := rDone_any w6 p R B g16
            have hd2 := fDone_any w6 q R B g6
            obtain ⟨D, hD⟩ : ∃ D, D = (!B && R.data.toList.isEmpty) := ⟨_, rfl⟩
            rw [← hD] at hd1 hd2
            have HD1 := Lib.hid hd1
            have HD2 := Lib.hid hd2
            clear hd1 hd2 hD
            go_wp2_with (go_at_call 35; refine HL1.out.mono ?_)
            rintro e w8 ⟨rfl, rfl⟩
            go_wp2_with (go_at_call 36; refine HL2.out.mono ?_)
            rintro e w8 ⟨rfl, rfl⟩
            go_wp2_with (go_at_call 37; refine HD1.out.mono ?_)
            rintro e w8 ⟨rfl, rfl⟩
            go_wp2_with (go_at_call 38; refine HD2.out.mono ?_)
            rintro e w8 ⟨rfl, rfl⟩
            go_wp2
            go_roundw
            case rel => exact ⟨i + 1, R, B, by go_num, by omega, ⟨g16, g6⟩, HRb, hRz, k6⟩
            case measure => simp only [intOf]; omega
          · have hfacts := out_facts (res := intP r.data.toList) (b := b) (fun v rest h => intP_less h) hb.out hz
            have hc1 := (rInt_any w4 p r b g1 hzb).mono (fun _ _ h => step_read (enc := Value.int .i64) (z := 0) rfl h)
            have hc2 := fun (W : World) (g : RAt 55 W q r b) => (fInt_any W q r b g hzb).mono (fun _ _ h => step_ref (enc := Value.int .i64) (z := 0) rfl h)
            obtain ⟨V, hV⟩ : ∃ V, V = outV 0 (intP r.data.toList) := ⟨_, rfl⟩
            obtain ⟨R, hR⟩ : ∃ R, R = outR (intP r.data.toList) := ⟨_, rfl⟩
            obtain ⟨B, hB⟩ : ∃ B, B = outB (intP r.data.toList) b := ⟨_, rfl⟩
            rw [← hR, ← hB] at hfacts
            rw [← hV, ← hR, ← hB] at hc1
            simp only [← hV, ← hR, ← hB] at hc2
            obtain ⟨hRz, hRb⟩ := hfacts
            have H1 := Lib.hid hc1
            have H2 := Lib.hid hc2
            have HRb := Lib.hid hRb
            clear hc1 hc2 hV hR hB hRb hz
            go_wp2_with (go_at_call 25; refine H1.out.mono ?_)
            rintro e w5 ⟨rfl, g5, o5⟩
            have g25 := o5.other g2 hqp
            have k5 := k4.only o5 hp
            go_wp2_with (go_at_call 26; refine (H2.out _ g25).mono ?_)
            rintro e w6 ⟨rfl, g6, o6⟩
            have g16 := o6.other g5 hpq
            have k6 := k5.only o6 hq
            have HL1 := Lib.hid (rLeft_any w6 p R B g16)
            have HL2 := Lib.hid (fLeft_any w6 q R B g6)
            have hd1 := rDone_any w6 p R B g16
            have hd2 := fDone_any w6 q R B g6
            obtain ⟨D, hD⟩ : ∃ D, D = (!B && R.data.toList.isEmpty) := ⟨_, rfl⟩
            rw [← hD] at hd1 hd2
            have HD1 := Lib.hid hd1
            have HD2 := Lib.hid hd2
            clear hd1 hd2 hD
            go_wp2_with (go_at_call 35; refine HL1.out.mono ?_)
            rintro e w8 ⟨rfl, rfl⟩
            go_wp2_with (go_at_call 36; refine HL2.out.mono ?_)
            rintro e w8 ⟨rfl, rfl⟩
            go_wp2_with (go_at_call 37; refine HD1.out.mono ?_)
            rintro e w8 ⟨rfl, rfl⟩
            go_wp2_with (go_at_call 38; refine HD2.out.mono ?_)
            rintro e w8 ⟨rfl, rfl⟩
            go_wp2
            go_roundw
            case rel => exact ⟨i + 1, R, B, by go_num, by omega, ⟨g16, g6⟩, HRb, hRz, k6⟩
            case measure => simp only [intOf]; omega
          · have hfacts := out_facts (res := textP r.data.toList) (b := b) (fun v rest h => textP_less h) hb.out hz
            have hc1 := (rText_any w4 p r b g1 hzb).mono (fun _ _ h => step_read (enc := Value.string) (z := ⟨#[]⟩) rfl h)
            have hc2 := fun (W : World) (g : RAt 55 W q r b) => (fText_any W q r b g hb.out hzb).mono (fun _ _ h => step_ref (enc := Value.string) (z := ⟨#[]⟩) rfl h)
            obtain ⟨V, hV⟩ : ∃ V, V = outV ⟨#[]⟩ (textP r.data.toList) := ⟨_, rfl⟩
            obtain ⟨R, hR⟩ : ∃ R, R = outR (textP r.data.toList) := ⟨_, rfl⟩
            obtain ⟨B, hB⟩ : ∃ B, B = outB (textP r.data.toList) b := ⟨_, rfl⟩
            rw [← hR, ← hB] at hfacts
            rw [← hV, ← hR, ← hB] at hc1
            simp only [← hV, ← hR, ← hB] at hc2
            obtain ⟨hRz, hRb⟩ := hfacts
            have H1 := Lib.hid hc1
            have H2 := Lib.hid hc2
            have HRb := Lib.hid hRb
            clear hc1 hc2 hV hR hB hRb hz
            go_wp2_with (go_at_call 27; refine H1.out.mono ?_)
            rintro e w5 ⟨rfl, g5, o5⟩
            have g25 := o5.other g2 hqp
            have k5 := k4.only o5 hp
            go_wp2_with (go_at_call 28; refine (H2.out _ g25).mono ?_)
            rintro e w6 ⟨rfl, g6, o6⟩
            have g16 := o6.other g5 hpq
            have k6 := k5.only o6 hq
            have HL1 := Lib.hid (rLeft_any w6 p R B g16)
            have HL2 := Lib.hid (fLeft_any w6 q R B g6)
            have hd1 := rDone_any w6 p R B g16
            have hd2 := fDone_any w6 q R B g6
            obtain ⟨D, hD⟩ : ∃ D, D = (!B && R.data.toList.isEmpty) := ⟨_, rfl⟩
            rw [← hD] at hd1 hd2
            have HD1 := Lib.hid hd1
            have HD2 := Lib.hid hd2
            clear hd1 hd2 hD
            go_wp2_with (go_at_call 35; refine HL1.out.mono ?_)
            rintro e w8 ⟨rfl, rfl⟩
            go_wp2_with (go_at_call 36; refine HL2.out.mono ?_)
            rintro e w8 ⟨rfl, rfl⟩
            go_wp2_with (go_at_call 37; refine HD1.out.mono ?_)
            rintro e w8 ⟨rfl, rfl⟩
            go_wp2_with (go_at_call 38; refine HD2.out.mono ?_)
            rintro e w8 ⟨rfl, rfl⟩
            go_wp2
            go_roundw
            case rel => exact ⟨i + 1, R, B, by go_num, by omega, ⟨g16, g6⟩, HRb, hRz, k6⟩
            case measure => simp only [intOf]; omega
          · have hfacts := out_facts (res := listP intP r.data.toList) (b := b) (fun v rest h => by have := list_len (fun l v rest h => intP_less h) h; omega) hb.out hz
            have hvl := outV_len (fun l v rest h => intP_less h) r.data.toList
            have hc1 := (rNums_any w4 p r b g1 hb.out hzb).mono (fun _ _ h => step_list h)
            have hc2 := fun (W : World) (g : RAt 55 W q r b) => (fNums_any W q r b g hb.out hzb).mono (fun _ _ h => step_listRef h)
            obtain ⟨V, hV⟩ : ∃ V, V = outV [] (listP intP r.data.toList) := ⟨_, rfl⟩
            obtain ⟨R, hR⟩ : ∃ R, R = outR (listP intP r.data.toList) := ⟨_, rfl⟩
            obtain ⟨B, hB⟩ : ∃ B, B = outB (listP intP r.data.toList) b := ⟨_, rfl⟩
            rw [← hR, ← hB] at hfacts
            rw [← hV, ← hR, ← hB] at hc1
            simp only [← hV, ← hR, ← hB] at hc2
            rw [← hV] at hvl
            obtain ⟨hRz, hRb⟩ := hfacts
            have H1 := Lib.hid hc1
            have H2 := Lib.hid hc2
            have HRb := Lib.hid hRb
            clear hc1 hc2 hV hR hB hRb hz
            go_wp2_with (go_at_call 30; refine H1.out.mono ?_)
            rintro e w5 ⟨⟨v1, rfl, hown1⟩, g5, o5⟩
            have g25 := o5.other g2 hqp
            have k5 := k4.only o5 hp
            go_wp2_with (go_at_call 31; refine (H2.out _ g25).mono ?_)
            rintro e w6 ⟨⟨v2, rfl, hown2⟩, g6, o6⟩
            have hq4 : q < w4.heap.size := g2.lt
            have hown1' := own_only hown1 o6 hq4
            have g16 := o6.other g5 hpq
            have k6 := k5.only o6 hq
            have hV63 : V.length ≤ 9223372036854775807 := by
              have h1 : r.data.toList.length = r.size := rfl
              omega
            have HSm := Lib.hid (SameNums_any v1 v2 V w6 hV63 (Row.of_own hown1') (Row.of_own hown2))
            clear hown1 hown2 hown1' hV63 hvl
            go_wp2_with (go_at_call 29; refine HSm.out.mono ?_)
            rintro e w7 ⟨rfl, m7, hw7⟩
            have g16 : RAt 53 w7 p R B := by rw [hw7]; exact g16
            have g6 : RAt 55 w7 q R B := by rw [hw7]; exact g6
            have k6 : Kept w w7 := by rw [hw7]; exact below_drewN k6 m7
            clear hw7
            have HL1 := Lib.hid (rLeft_any w7 p R B g16)
            have HL2 := Lib.hid (fLeft_any w7 q R B g6)
            have hd1 := rDone_any w7 p R B g16
            have hd2 := fDone_any w7 q R B g6
            obtain ⟨D, hD⟩ : ∃ D, D = (!B && R.data.toList.isEmpty) := ⟨_, rfl⟩
            rw [← hD] at hd1 hd2
            have HD1 := Lib.hid hd1
            have HD2 := Lib.hid hd2
            clear hd1 hd2 hD
            go_wp2_with (go_at_call 35; refine HL1.out.mono ?_)
            rintro e w8 ⟨rfl, rfl⟩
            go_wp2_with (go_at_call 36; refine HL2.out.mono ?_)
            rintro e w8 ⟨rfl, rfl⟩
            go_wp2_with (go_at_call 37; refine HD1.out.mono ?_)
            rintro e w8 ⟨rfl, rfl⟩
            go_wp2_with (go_at_call 38; refine HD2.out.mono ?_)
            rintro e w8 ⟨rfl, rfl⟩
            go_wp2
            go_roundw
            case rel => exact ⟨i + 1, R, B, by go_num, by omega, ⟨g16, g6⟩, HRb, hRz, k6⟩
            case measure => simp only [intOf]; omega
          · have hfacts := out_facts (res := listP textP r.data.toList) (b := b) (fun v rest h => by have := list_len (fun l v rest h => textP_less h) h; omega) hb.out hz
            have hvl := outV_len (fun l v rest h => textP_less h) r.data.toList
            have hc1 := (rTexts_any w4 p r b g1 hb.out hzb).mono (fun _ _ h => step_list h)
            have hc2 := fun (W : World) (g : RAt 55 W q r b) => (fTexts_any W q r b g hb.out hzb).mono (fun _ _ h => step_listRef h)
            obtain ⟨V, hV⟩ : ∃ V, V = outV [] (listP textP r.data.toList) := ⟨_, rfl⟩
            obtain ⟨R, hR⟩ : ∃ R, R = outR (listP textP r.data.toList) := ⟨_, rfl⟩
            obtain ⟨B, hB⟩ : ∃ B, B = outB (listP textP r.data.toList) b := ⟨_, rfl⟩
            rw [← hR, ← hB] at hfacts
            rw [← hV, ← hR, ← hB] at hc1
            simp only [← hV, ← hR, ← hB] at hc2
            rw [← hV] at hvl
            obtain ⟨hRz, hRb⟩ := hfacts
            have H1 := Lib.hid hc1
            have H2 := Lib.hid hc2
            have HRb := Lib.hid hRb
            clear hc1 hc2 hV hR hB hRb hz
            go_wp2_with (go_at_call 33; refine H1.out.mono ?_)
            rintro e w5 ⟨⟨v1, rfl, hown1⟩, g5, o5⟩
            have g25 := o5.other g2 hqp
            have k5 := k4.only o5 hp
            go_wp2_with (go_at_call 34; refine (H2.out _ g25).mono ?_)
            rintro e w6 ⟨⟨v2, rfl, hown2⟩, g6, o6⟩
            have hq4 : q < w4.heap.size := g2.lt
            have hown1' := own_only hown1 o6 hq4
            have g16 := o6.other g5 hpq
            have k6 := k5.only o6 hq
            have hV63 : V.length ≤ 9223372036854775807 := by
              have h1 : r.data.toList.length = r.size := rfl
              omega
            have HSm := Lib.hid (SameTexts_any v1 v2 V w6 hV63 (Row.of_own hown1') (Row.of_own hown2))
            clear hown1 hown2 hown1' hV63 hvl
            go_wp2_with (go_at_call 32; refine HSm.out.mono ?_)
            rintro e w7 ⟨rfl, m7, hw7⟩
            have g16 : RAt 53 w7 p R B := by rw [hw7]; exact g16
            have g6 : RAt 55 w7 q R B := by rw [hw7]; exact g6
            have k6 : Kept w w7 := by rw [hw7]; exact below_drewN k6 m7
            clear hw7
            have HL1 := Lib.hid (rLeft_any w7 p R B g16)
            have HL2 := Lib.hid (fLeft_any w7 q R B g6)
            have hd1 := rDone_any w7 p R B g16
            have hd2 := fDone_any w7 q R B g6
            obtain ⟨D, hD⟩ : ∃ D, D = (!B && R.data.toList.isEmpty) := ⟨_, rfl⟩
            rw [← hD] at hd1 hd2
            have HD1 := Lib.hid hd1
            have HD2 := Lib.hid hd2
            clear hd1 hd2 hD
            go_wp2_with (go_at_call 35; refine HL1.out.mono ?_)
            rintro e w8 ⟨rfl, rfl⟩
            go_wp2_with (go_at_call 36; refine HL2.out.mono ?_)
            rintro e w8 ⟨rfl, rfl⟩
            go_wp2_with (go_at_call 37; refine HD1.out.mono ?_)
            rintro e w8 ⟨rfl, rfl⟩
            go_wp2_with (go_at_call 38; refine HD2.out.mono ?_)
            rintro e w8 ⟨rfl, rfl⟩
            go_wp2
            go_roundw
            case rel => exact ⟨i + 1, R, B, by go_num, by omega, ⟨g16, g6⟩, HRb, hRz, k6⟩
            case measure => simp only [intOf]; omega
        · go_wp2
          go_ret
          exact ⟨rfl, kr⟩
end Go.Proofs.YtonfkmoocgpleaaDoor
