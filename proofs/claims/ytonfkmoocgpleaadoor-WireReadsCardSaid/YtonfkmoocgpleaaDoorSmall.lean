/- What every law of this seat asks first. -/
import Derived.Test.YtonfkmoocgpleaaDoorRefLists
import Derived.Test.YtonfkmoocgpleaaDoorElems2
namespace Go.Proofs.YtonfkmoocgpleaaDoor
open Go.RowKit

theorem Kept.only {p : Nat} {w w1 w2 : World} (h : Kept w w1) (ho : Only p w1 w2) (hp : w.heap.size ≤ p) : Kept w w2 :=
  ⟨ho.os.trans h.os, ho.tape.trans h.tape, ho.output.trans h.output, Nat.le_trans h.size ho.size, fun j hj => (ho.block j (Nat.lt_of_lt_of_le hj h.size) (fun e => by cases e; omega)).trans (Below.block h j hj)⟩

theorem itoa_digit (n : Nat) (h : n < 10) : Lib.itoa n = [UInt8.ofNat (48 + n)] := by rw [Lib.itoa_nonneg, Lib.decDigits_one h]
theorem itoa_minus (n : Nat) (h0 : 1 ≤ n) (h : n < 10) : Lib.itoa (-(n : Int)) = [45, UInt8.ofNat (48 + n)] := by rw [Lib.itoa_neg n h0, Lib.decDigits_one h]
theorem itoa_300 : Lib.itoa 300 = [51, 48, 48] := by
  have h : Lib.decDigits 300 = Lib.decDigits (300 / 10) ++ [UInt8.ofNat (48 + 300 % 10)] := by rw [Lib.decDigits, dif_neg (by decide)]
  have h2 := Lib.itoa_nonneg 300
  show Lib.itoa ((300 : Nat) : Int) = _
  rw [h2, h, Lib.decDigits_two (by decide) (by decide)]; rfl

theorem s_num0 (w : World) (ht : Tab w) : Calls Tryd.prog 10 #[.int .i64 0] w fun e w' => e = .returned (.string ⟨#[48, 59]⟩) ∧ Kept w w' :=
  (Num_pos 0 (by omega) (by omega) w ht).mono fun _ _ h => ⟨h.1.trans (ret_string (by unfold encInt; rw [show (0 : Int) = ((0 : Nat) : Int) from rfl, itoa_digit 0 (by omega)]; rfl)), h.2⟩
theorem s_num300 (w : World) (ht : Tab w) : Calls Tryd.prog 10 #[.int .i64 300] w fun e w' => e = .returned (.string ⟨#[51, 48, 48, 59]⟩) ∧ Kept w w' :=
  (Num_pos 300 (by omega) (by omega) w ht).mono fun _ _ h => ⟨h.1.trans (ret_string (by unfold encInt; rw [itoa_300]; rfl)), h.2⟩
theorem s_num1 (w : World) : Calls Tryd.prog 10 #[.int .i64 (-1)] w fun e w' => e = .returned (.string ⟨#[]⟩) ∧ Kept w w' := Num_neg (-1) (by omega) w
theorem s_int7m (w : World) (ht : Tab w) : Calls Tryd.prog 12 #[.int .i64 (-7)] w fun e w' => e = .returned (.string ⟨#[45, 55, 59]⟩) ∧ Kept w w' :=
  (Int_any (-7) (by omega) (by omega) w ht).mono fun _ _ h => ⟨h.1.trans (ret_string (by unfold encInt; rw [show (-7 : Int) = -((7 : Nat) : Int) from rfl, itoa_minus 7 (by omega) (by omega)]; rfl)), h.2⟩
theorem s_int7 (w : World) (ht : Tab w) : Calls Tryd.prog 12 #[.int .i64 7] w fun e w' => e = .returned (.string ⟨#[55, 59]⟩) ∧ Kept w w' :=
  (Int_any 7 (by omega) (by omega) w ht).mono fun _ _ h => ⟨h.1.trans (ret_string (by unfold encInt; rw [show (7 : Int) = ((7 : Nat) : Int) from rfl, itoa_digit 7 (by omega)]; rfl)), h.2⟩
theorem s_text (w : World) (ht : Tab w) : Calls Tryd.prog 14 #[.string ⟨#[97, 44, 98]⟩] w fun e w' => e = .returned (.string ⟨#[51, 58, 97, 44, 98, 44]⟩) ∧ Kept w w' :=
  (Text_any ⟨#[97, 44, 98]⟩ (by decide) w ht).mono fun _ _ h => ⟨h.1.trans (ret_string (by
    show encText [97, 44, 98] = _
    unfold encText; show Lib.itoa ((3 : Nat) : Int) ++ [58] ++ [97, 44, 98] ++ [44] = _; rw [itoa_digit 3 (by omega)]; rfl)), h.2⟩
theorem s_nums (v : Value) (w : World) (ht : Tab w) (hv : Row (Value.int .i64) w w.heap.size v [1, -1]) : Calls Tryd.prog 16 #[v] w fun e w' => e = .returned (.string ⟨#[50, 91, 49, 59, 45, 49, 59, 93]⟩) ∧ Kept w w' :=
  (Nums_any v [1, -1] w ht (by decide) (by decide) hv).mono fun _ _ h => ⟨h.1.trans (ret_string (by
    show encList encInt [1, -1] = _
    have e1 : encInt 1 = [49, 59] := by unfold encInt; rw [show (1 : Int) = ((1 : Nat) : Int) from rfl, itoa_digit 1 (by omega)]; rfl
    have e2 : encInt (-1) = [45, 49, 59] := by unfold encInt; rw [show (-1 : Int) = -((1 : Nat) : Int) from rfl, itoa_minus 1 (by omega) (by omega)]; rfl
    unfold encList; show Lib.itoa ((2 : Nat) : Int) ++ [91] ++ [encInt 1, encInt (-1)].flatten ++ [93] = _; rw [itoa_digit 2 (by omega), e1, e2]; rfl)), h.2⟩
theorem s_texts (w : World) (ht : Tab w) : Calls Tryd.prog 18 #[.slice none 0 0] w fun e w' => e = .returned (.string ⟨#[48, 91, 93]⟩) ∧ Kept w w' :=
  (Texts_any (.slice none 0 0) [] w ht (by decide) (by simp) ⟨none, 0, rfl, fun j h => by simp at h⟩).mono fun _ _ h => ⟨h.1.trans (ret_string (by
    show encList encS [] = _
    unfold encList; show Lib.itoa ((0 : Nat) : Int) ++ [91] ++ [] ++ [93] = _; rw [itoa_digit 0 (by omega)]; rfl)), h.2⟩
theorem s_bad : numP 9223372036854775807 59 [48, 48, 55, 59] = none := by
  have : digP 9223372036854775807 [48, 48, 55, 59] = none := by decide
  unfold numP; rw [this]

set_option maxRecDepth 100000 in
set_option maxHeartbeats 1000000 in
theorem small_any (w : World) (ht : Tab w) :
    Calls Tryd.prog 8 #[] w fun e w' => e = .returned (.bool true) ∧ Kept w w' := by
  go_enter Tryd.func8, Tryd.ntmps8
  go_wp2_with (go_at_call 10; refine (s_num0 _ ht).mono ?_)
  rintro e w1 ⟨rfl, b1⟩
  have t1 := ht.kept b1
  go_wp2_with (go_at_call 10; refine (s_num300 _ t1).mono ?_)
  rintro e w2 ⟨rfl, b2⟩
  have t2 := t1.kept b2
  go_wp2_with (go_at_call 10; refine (s_num1 _).mono ?_)
  rintro e w3 ⟨rfl, b3⟩
  have t3 := t2.kept b3
  go_wp2_with (go_at_call 12; refine (s_int7m _ t3).mono ?_)
  rintro e w4 ⟨rfl, b4⟩
  have t4 := t3.kept b4
  go_wp2_with (go_at_call 12; refine (s_int7 _ t4).mono ?_)
  rintro e w5 ⟨rfl, b5⟩
  have t5 := t4.kept b5
  have k5 := (((b1.trans b2).trans b3).trans b4).trans b5
  clear b1 b2 b3 b4 b5 t1 t2 t3 t4
  go_wp2_with (go_at_call 14; refine (s_text _ t5).mono ?_)
  rintro e w6 ⟨rfl, b6⟩
  have t6 := t5.kept b6
  have k6 := k5.trans b6
  have hk7 : Kept w6 (w6.alloc (.cells #[.int .i64 1, .int .i64 (-1)] 3)) := (Below.refl _ w6).alloc (Nat.le_refl _) _
  have hrow : Row (Value.int .i64) (w6.alloc (.cells #[.int .i64 1, .int .i64 (-1)] 3)) (w6.alloc (.cells #[.int .i64 1, .int .i64 (-1)] 3)).heap.size (.slice (some ⟨w6.heap.size, 0, none⟩) 2 2) [1, -1] :=
    ⟨_, 2, rfl, fun j hj => ⟨w6.heap.size, 0, by simp, rfl, by
      have hn2 := fun i => Lib.cell_of_heap (World.alloc_heap_new w6 (.cells #[.int .i64 1, .int .i64 (-1)] 3)) i
      rw [hn2]
      match j, hj with
      | 0, _ => rfl
      | 1, _ => rfl⟩⟩
  have HN7 := Lib.hid (s_nums _ _ (t6.kept hk7) hrow)
  clear hrow
  go_wp2_with (go_at_call 16; refine HN7.out.mono ?_)
  rintro e w7 ⟨rfl, b7⟩
  have t7 := (t6.kept hk7).kept b7
  have k7 := (k6.trans hk7).trans b7
  go_wp2_with (go_at_call 18; refine (s_texts _ t7).mono ?_)
  rintro e w8 ⟨rfl, b8⟩
  have k8 := k7.trans b8
  clear t5 t6 t7 k5 k6 k7 b6 b7 b8 hk7
  go_wp2_with (go_at_call 20; refine (rOpen_any _ _).mono ?_)
  rintro e w9 ⟨rfl, g9, b9⟩
  have hN := rNum_any w9 w8.heap.size ⟨#[48, 48, 55, 59]⟩ false g9 (by decide)
  rw [show (⟨#[48, 48, 55, 59]⟩ : ByteArray).data.toList = [48, 48, 55, 59] from rfl, s_bad] at hN
  have HN := Lib.hid hN
  clear hN
  go_wp2_with (go_at_call 23; refine HN.out.mono ?_)
  rintro e w10 ⟨o10, rfl, g10⟩
  have hL := rLeft_any w10 w8.heap.size ⟨#[]⟩ true g10
  have hD := rDone_any w10 w8.heap.size ⟨#[]⟩ true g10
  have HL := Lib.hid hL
  have HD := Lib.hid hD
  clear hL hD
  go_wp2_with (go_at_call 35; refine HL.out.mono ?_)
  rintro e w11 ⟨rfl, rfl⟩
  go_wp2_with (go_at_call 37; refine HD.out.mono ?_)
  rintro e w12 ⟨rfl, rfl⟩
  go_wp2
  go_ret
  exact ⟨rfl, (k8.trans b9).only o10 k8.size⟩
end Go.Proofs.YtonfkmoocgpleaaDoor
