/- The iterator over the words of a string. -/
import Derived.RangeFuncBox
import Derived.RangeFuncLeaves
import Derived.Shelf.Abstract
import Derived.OwnWalkIn
import Derived.TacticsInMore
import Derived.LoopNIn
import Derived.LoopIn
import Derived.Test.YthnpedkinelemaaBuilder
namespace Go.Proofs.Ythnpedkinelemaa
open Go.RowKit Go.Shelf

attribute [local go_sem] Oper.semAt_some

theorem white_in (F : Fence) (n : Nat) (h27 : F.fn 27) (hro : F.round = none) (c : UInt8) (w : World) :
    CallsIn F n Try.prog 27 #[.int .u8 c.toNat] w fun e w' => e = .returned (.bool (whiteB c)) ∧ w = w' := by
  refine callsIn_of_wp Try.func27 rfl h27 ?_ hro
  simp only [Try.ntmps27, List.size_toArray, List.length_cons, List.length_nil, Nat.reduceAdd, Nat.reduceSub, Array.replicate_succ, Array.replicate_zero, List.push_toArray, List.append_toArray, List.nil_append, List.cons_append]
  gi_wp2
  all_goals
    go_ret
    exact ⟨ret_bool (by simp [whiteB, *]), rfl⟩

set_option maxHeartbeats 1000000 in
theorem words_in (F : Fence) (n : Nat) (h26 : F.fn 26) (hro : F.round = none) (s : ByteArray) (w : World) :
    CallsIn F n Try.prog 26 #[.string s] w fun e w' => e = .returned (.func (.func 34) #[] #[.pointer (some ⟨w.heap.size, 0, none⟩)]) ∧ w' = w.alloc (.cells #[.string s] 9) := by
  refine callsIn_of_wp Try.func26 rfl h26 ?_ hro
  simp only [Try.ntmps26, List.size_toArray, List.length_cons, List.length_nil, Nat.reduceAdd, Nat.reduceSub, Array.replicate_succ, Array.replicate_zero, List.push_toArray, List.append_toArray, List.nil_append, List.cons_append]
  gi_wp2
  go_ret
  exact ⟨rfl, rfl⟩

/-- The first cell of a block reads as it read. -/
def KeepCell (Bs : Nat) (A B : World) : Prop := B.cell? ⟨Bs, 0, none⟩ = A.cell? ⟨Bs, 0, none⟩

/-- The bytes of each. -/
def lists (pre : List ByteArray) : List (List UInt8) := pre.map fun b => b.data.toList

theorem words_stepB (s : ByteArray) (k j : Nat) (hkj : k < j) (hj : j ≤ s.size) (hall : ∀ x, k ≤ x → x < j → whiteB (s.data.toList.getD x 0) = false) (hend : j = s.size ∨ whiteB (s.data.toList.getD j 0) = true) :
    wordsP whiteB (s.data.toList.drop k) = (s.extract k j).data.toList :: wordsP whiteB (s.data.toList.drop j) := by
  have hz : s.data.toList.length = s.size := rfl
  rw [words_step whiteB s.data.toList k j hkj (by omega) hall (by rw [hz]; exact hend), Lib.extract_data]

set_option maxRecDepth 100000 in
set_option maxHeartbeats 2000000 in
theorem words1_in (F : Fence) (n : Nat) (h34 : F.fn 34) (h27 : F.fn 27) (hro : F.round = none) (hn : 1 ≤ n) (l Bs : Nat) (s : ByteArray) (hs : s.size ≤ 1000000) (J Jx : List ByteArray → World → Prop)
    (hY : ∀ pre x W, J pre W → pre.length < s.size → x.size ≤ s.size → YieldAt F (n - 1) Try.prog l #[.string x] W fun e W' =>
      (e = .returned (.bool true) ∧ J (pre ++ [x]) W' ∧ KeepCell Bs W W') ∨ (e = .returned (.bool false) ∧ Jx (pre ++ [x]) W'))
    (W : World) (hBs : W.cell? ⟨Bs, 0, none⟩ = some (.string s)) (h0 : J [] W) :
    CallsIn F n Try.prog 34 #[.func (.yield l) #[] #[], .pointer (some ⟨Bs, 0, none⟩)] W fun e W' => (∃ v, e = .returned v) ∧
      ((∃ ys, lists ys = wordsP whiteB s.data.toList ∧ J ys W') ∨ (∃ pre, lists pre <+: wordsP whiteB s.data.toList ∧ Jx pre W')) := by
  refine callsIn_of_wp Try.func34 rfl h34 ?_ hro
  simp only [Try.ntmps34, List.size_toArray, List.length_cons, List.length_nil, Nat.reduceAdd, Nat.reduceSub, Array.replicate_succ, Array.replicate_zero, List.push_toArray, List.append_toArray, List.nil_append, List.cons_append]
  gi_wp2
  gi_loopw [3] (fun i wr => ∃ (k : Nat) (pre : List ByteArray), k ≤ s.size ∧ i = .int .i64 k ∧ pre.length ≤ k ∧ Hid (wordsP whiteB s.data.toList = lists pre ++ wordsP whiteB (s.data.toList.drop k)) ∧ J pre wr ∧ KeepCell Bs W wr)
    (fun i _ => s.size - (intOf i).toNat)
  case atStart => exact ⟨0, [], Nat.zero_le _, rfl, Nat.le_refl _, rfl, h0, rfl⟩
  case round =>
    obtain ⟨k, pre, hk, rfl, hpk, hpre, hJ, hbw⟩ := hrel
    have hcx : wr.cell? ⟨Bs, 0, none⟩ = some (.string s) := (show _ = _ from hbw).trans hBs
    by_cases hlt : k < s.size
    · by_cases hw : whiteB s[k] = true
      · have hc : ∀ w, CallsIn F (n - 1) Try.prog 27 #[.int .u8 (s[k].toNat : Int)] w fun e w' => e = .returned (.bool true) ∧ w = w' := fun w => by
          rw [← hw]; exact white_in F (n - 1) h27 hro _ _
        have HC := Lib.hid hc
        clear hc
        gi_wp2_with (gi_at_call 27; refine (HC.out _).mono ?_; rintro e w1 ⟨rfl, rfl⟩)
        go_roundw
        case rel =>
          refine ⟨k + 1, pre, by omega, by go_num, by omega, ?_, hJ, hbw⟩
          have := words_skip whiteB s.data.toList k (by simpa using hlt) (by rw [getD_data _ _ hlt]; exact hw)
          show _ = _
          rw [← this]; exact hpre
        case measure => simp [intOf]; omega
      · have hw0 : whiteB s[k] = false := by rw [Bool.eq_false_iff]; exact hw
        have hc : ∀ w, CallsIn F (n - 1) Try.prog 27 #[.int .u8 (s[k].toNat : Int)] w fun e w' => e = .returned (.bool false) ∧ w = w' := fun w => by
          rw [← hw0]; exact white_in F (n - 1) h27 hro _ _
        have HC := Lib.hid hc
        have HW0 := Lib.hid hw0
        clear hc hw hw0
        gi_wp2_with (gi_at_call 27; refine (HC.out _).mono ?_; rintro e w1 ⟨rfl, rfl⟩)
        obtain ⟨wo, hwo⟩ : ∃ wo : World, wo = wr := ⟨_, rfl⟩
        subst hwo
        gi_loopw [3] (fun i w' => ∃ j : Nat, k ≤ j ∧ j ≤ s.size ∧ i = .int .i64 j ∧ Hid (∀ x, k ≤ x → x < j → whiteB (s.data.toList.getD x 0) = false) ∧ w' = wo) (fun i _ => s.size - (intOf i).toNat)
        case atStart => exact ⟨k, Nat.le_refl _, hk, rfl, fun x h1 h2 => by omega, rfl⟩
        case round =>
          obtain ⟨j, hkj, hjs, rfl, hall, hwr⟩ := hrel
          subst hwr
          by_cases hjl : j < s.size
          · by_cases hwj : whiteB s[j] = true
            · have hc : ∀ w, CallsIn F (n - 1) Try.prog 27 #[.int .u8 (s[j].toNat : Int)] w fun e w' => e = .returned (.bool true) ∧ w = w' := fun w => by
                rw [← hwj]; exact white_in F (n - 1) h27 hro _ _
              have HC2 := Lib.hid hc
              have HWJ := Lib.hid hwj
              clear hc hwj
              have hlt' : k < j := by
                rcases Nat.lt_or_ge k j with h | h
                · exact h
                · obtain rfl : j = k := by omega
                  have h1 := HWJ.out
                  rw [HW0.out] at h1; cases h1
              have hstep := words_stepB s k j hlt' hjs hall.out (.inr (by rw [getD_data _ _ hjl]; exact HWJ.out))
              obtain ⟨fn, tmps, assign, body, hy, hR⟩ := hY pre (s.extract k j) wr hJ (by omega) (by rw [ByteArray.size_extract]; omega)
              gi_wp2_with (gi_at_call 27; refine (HC2.out _).mono ?_; rintro e w1 ⟨rfl, rfl⟩)
              refine hR.mono ?_
              rintro e W3 (⟨rfl, hJ3, hk3⟩ | ⟨rfl, hJx3⟩)
              · gi_wp2
                go_roundw
                case rel =>
                  refine ⟨j, pre ++ [s.extract k j], hjs, by go_num, by simp; omega, ?_, hJ3, hk3.trans hbw⟩
                  show _ = _
                  rw [hpre.out, hstep]; simp [lists]
                case measure => simp [intOf]; omega
              · gi_wp2
                refine bodyPost_ret (results_none rfl _ _ _) rfl ?_
                exact ⟨⟨_, rfl⟩, .inr ⟨pre ++ [s.extract k j], by rw [hpre.out, hstep]; simp [lists], hJx3⟩⟩
            · have hwj0 : whiteB s[j] = false := by rw [Bool.eq_false_iff]; exact hwj
              have hc : ∀ w, CallsIn F (n - 1) Try.prog 27 #[.int .u8 (s[j].toNat : Int)] w fun e w' => e = .returned (.bool false) ∧ w = w' := fun w => by
                rw [← hwj0]; exact white_in F (n - 1) h27 hro _ _
              have HC2 := Lib.hid hc
              have HWJ := Lib.hid hwj0
              clear hc hwj hwj0
              gi_wp2_with (gi_at_call 27; refine (HC2.out _).mono ?_; rintro e w1 ⟨rfl, rfl⟩)
              go_roundw
              case rel =>
                refine ⟨j + 1, by omega, by omega, by go_num, ?_, ?_⟩
                case refine_2 => trivial
                intro x hx1 hx2
                by_cases hxj : x = j
                · subst hxj; rw [getD_data _ _ hjl]; exact HWJ.out
                · exact hall x hx1 (by omega)
              case measure => simp [intOf]; omega
          · have hstep := words_stepB s k j (by omega) hjs hall.out (.inl (by omega))
            obtain ⟨fn, tmps, assign, body, hy, hR⟩ := hY pre (s.extract k j) wr hJ (by omega) (by rw [ByteArray.size_extract]; omega)
            gi_wp2
            refine hR.mono ?_
            rintro e W3 (⟨rfl, hJ3, hk3⟩ | ⟨rfl, hJx3⟩)
            · gi_wp2
              go_roundw
              case rel =>
                refine ⟨j, pre ++ [s.extract k j], hjs, by go_num, by simp; omega, ?_, hJ3, hk3.trans hbw⟩
                show _ = _
                rw [hpre.out, hstep]; simp [lists]
              case measure => simp [intOf]; omega
            · gi_wp2
              refine bodyPost_ret (results_none rfl _ _ _) rfl ?_
              exact ⟨⟨_, rfl⟩, .inr ⟨pre ++ [s.extract k j], by rw [hpre.out, hstep]; simp [lists], hJx3⟩⟩
    · gi_wp2
      go_end0
      exact ⟨⟨_, rfl⟩, .inl ⟨pre, by
        have e : k = s.size := by omega
        have := hpre.out
        rw [this, e]
        have h2 : s.data.toList.drop s.size = [] := by apply List.drop_eq_nil_of_le; exact Nat.le_of_eq (show s.data.toList.length = s.size from rfl)
        rw [h2, wordsP_nil, List.append_nil], hJ⟩⟩
end Go.Proofs.Ythnpedkinelemaa
