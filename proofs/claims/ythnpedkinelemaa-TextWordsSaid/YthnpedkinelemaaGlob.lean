/- Glob is what the definition says byte for byte. -/
import Derived.Test.YthnpedkinelemaaNumber
import Derived.Test.YthnpedkinelemaaGlobPlain
namespace Go.Proofs.Ythnpedkinelemaa
open Go.RowKit

def mtB (a c : UInt8) : Bool := a == 63 || lowB a == lowB c
def globB (P S : ByteArray) : Bool := globP mtB P.data.toList S.data.toList

theorem byte_eq_int (c : UInt8) (n : Nat) (hn : n < 256) (h : c = UInt8.ofNat n) : ((c.toNat : Int) == (n : Int)) = true := by
  subst h; rw [beq_iff_eq, UInt8.toNat_ofNat']; show ((n % 256 : Nat) : Int) = _; omega
theorem byte_ne_int (c : UInt8) (n : Nat) (_hn : n < 256) (h : c ≠ UInt8.ofNat n) : ((c.toNat : Int) == (n : Int)) = false := by
  rw [beq_eq_false_iff_ne]; intro e
  apply h
  have : c.toNat = n := by omega
  rw [← this, UInt8.ofNat_toNat]

/-- The loop's relation. -/
def GRel (P S : ByteArray) (w : World) (v5 v6 v7 v8 : Value) (wr : World) : Prop :=
  ∃ p i st mk : Nat, v5 = .int .i64 p ∧ v6 = .int .i64 i ∧ v7 = .int .i64 ((st : Int) - 1) ∧ v8 = .int .i64 mk ∧ GInv mtB P.data.toList S.data.toList p i st mk ∧ Below w.heap.size w wr

set_option maxHeartbeats 2000000 in
theorem Glob_any (P S : ByteArray) (w : World) (hP : P.size ≤ 900) (hS : S.size ≤ 900) :
    Calls Try.prog 11 #[.string P, .string S] w fun e w' => e = .returned (.bool (globB P S)) ∧ Below w.heap.size w w' := by
  have hPl : P.data.toList.length = P.size := by simp
  have hSl : S.data.toList.length = S.size := by simp
  have HP := Lib.hid hPl
  have HS := Lib.hid hSl
  clear hPl hSl
  go_enter Try.func11, Try.ntmps11
  go_wp2
  go_loopw [5, 6, 7, 8] (fun v5 v6 v7 v8 wr => GRel P S w v5 v6 v7 v8 wr) (fun _ v6 v7 v8 _ => ((1000 - (intOf v8).toNat) * 1000 + (1000 - (intOf v7 + 1).toNat)) * 1000 + (1000 - (intOf v6).toNat))
  case atStart => exact ⟨0, 0, 0, 0, rfl, rfl, rfl, rfl, ginv_start _ _ _, Below.refl _ _⟩
  case round =>
    obtain ⟨p, i, st, mk, rfl, rfl, rfl, rfl, hG, hb⟩ := hrel
    have hp := hG.hp
    have hi := hG.hi
    have hm := hG.hm
    rw [HP.out] at hp
    rw [HS.out] at hi
    have hst : st ≤ p := by
      rcases Nat.eq_zero_or_pos st with h | h
      · omega
      · exact (hG.some h).1
    have i0 : (0 : Int) ≤ (i : Int) := by omega
    have p0 : (0 : Int) ≤ (p : Int) := by omega
    by_cases hlt : i < S.size
    · have i1 : (i : Int) < (S.size : Int) := by omega
      have hi' : i < S.data.toList.length := by rw [HS.out]; exact hlt
      by_cases hpl : p < P.size
      · have p1 : (p : Int) < (P.size : Int) := by omega
        have hp' : p < P.data.toList.length := by rw [HP.out]; exact hpl
        by_cases hstar : P[p] = 42
        · have f1 : ((P[p].toNat : Int) == 42) = true := byte_eq_int P[p] 42 (by omega) hstar
          have hn := ginv_star mtB hG hp' (by rw [getD_data _ _ hpl]; exact hstar)
          have HN := Lib.hid hn
          clear hn hstar hG
          go_wp2
          go_roundw
          case rel => exact ⟨p + 1, i, p + 1, i, by go_num, rfl, by go_num, rfl, HN.out, hb⟩
          case measure => simp [intOf]; omega
        · have f1 : ((P[p].toNat : Int) == 42) = false := byte_ne_int P[p] 42 (by omega) hstar
          have HG := Lib.hid hG
          clear hG
          by_cases hq : P[p] = 63
          · have f2 : ((P[p].toNat : Int) == 63) = true := byte_eq_int P[p] 63 (by omega) hq
            have hn := ginv_byte mtB HG.out hp' hi' (by rw [getD_data _ _ hpl]; exact hstar) (by rw [getD_data _ _ hpl, getD_data _ _ hlt]; unfold mtB; rw [hq]; rfl)
            have HN := Lib.hid hn
            clear hn hstar hq
            go_wp2
            go_quiet ((go_at_call 25; exact Calls.quiet_of_same ((lower_any _ _).mono fun _ _ h => ⟨h.1, h.2.symm⟩)))
            go_wp2
            go_roundw
            case rel => exact ⟨p + 1, i + 1, st, mk, by go_num, by go_num, rfl, rfl, HN.out, below_drewN hb _⟩
            case measure => simp [intOf]; omega
          · have f2 : ((P[p].toNat : Int) == 63) = false := byte_ne_int P[p] 63 (by omega) hq
            by_cases hl : lowB P[p] = lowB S[i]
            · have f3 : (((lowB P[p]).toNat : Int) == ((lowB S[i]).toNat : Int)) = true := by rw [hl]; simp
              have hn := ginv_byte mtB HG.out hp' hi' (by rw [getD_data _ _ hpl]; exact hstar) (by rw [getD_data _ _ hpl, getD_data _ _ hlt]; unfold mtB; rw [hl]; simp)
              have HN := Lib.hid hn
              clear hn hstar hq hl
              go_wp2
              go_quiet ((go_at_call 25; exact Calls.quiet_of_same ((lower_any _ _).mono fun _ _ h => ⟨h.1, h.2.symm⟩)))
              go_wp2
              go_roundw
              case rel => exact ⟨p + 1, i + 1, st, mk, by go_num, by go_num, rfl, rfl, HN.out, below_drewN hb _⟩
              case measure => simp [intOf]; omega
            · have f3 : (((lowB P[p]).toNat : Int) == ((lowB S[i]).toNat : Int)) = false := by
                rw [beq_eq_false_iff_ne]; intro e; exact hl (UInt8.toNat_inj.1 (by omega))
              have hno : p < P.data.toList.length → P.data.toList.getD p 0 ≠ 42 ∧ mtB (P.data.toList.getD p 0) (S.data.toList.getD i 0) = false := fun _ => by
                rw [getD_data _ _ hpl, getD_data _ _ hlt]
                refine ⟨hstar, ?_⟩
                unfold mtB
                simp [hq, hl]
              have HNO := Lib.hid hno
              clear hno hstar hq hl
              rcases Nat.eq_zero_or_pos st with h0 | h0
              · have hf : false = globB P S := by
                  unfold globB; rw [(HG.out.none h0).2, glob_stuck mtB hi' HNO.out]
                have HF := Lib.hid hf
                have h00 : (st : Int) - 1 < 0 := by omega
                clear hf h0
                go_wp2
                go_quiet ((go_at_call 25; exact Calls.quiet_of_same ((lower_any _ _).mono fun _ _ h => ⟨h.1, h.2.symm⟩)))
                go_wp2
                go_ret
                exact ⟨ret_bool HF.out, below_drewN hb _⟩
              · have hn := ginv_back mtB HG.out hi' h0 HNO.out
                have HN := Lib.hid hn
                have h00 : 0 ≤ (st : Int) - 1 := by omega
                have h01 : 1 ≤ (st : Int) := by omega
                clear hn
                go_wp2
                go_quiet ((go_at_call 25; exact Calls.quiet_of_same ((lower_any _ _).mono fun _ _ h => ⟨h.1, h.2.symm⟩)))
                go_wp2
                go_roundw
                case rel => exact ⟨st, mk + 1, st, mk + 1, by go_num, by go_num, rfl, by go_num, HN.out, below_drewN hb _⟩
                case measure => simp [intOf]; omega
      · have p1 : (P.size : Int) ≤ (p : Int) := by omega
        have HG := Lib.hid hG
        clear hG
        have hno : p < P.data.toList.length → P.data.toList.getD p 0 ≠ 42 ∧ mtB (P.data.toList.getD p 0) (S.data.toList.getD i 0) = false := fun h => by rw [HP.out] at h; omega
        have HNO := Lib.hid hno
        clear hno
        have fd : decide ((p : Int) < (P.size : Int)) = false := by simp; omega
        have fd2 : decide (p < P.size) = false := by simp; omega
        rcases Nat.eq_zero_or_pos st with h0 | h0
        · have hf : false = globB P S := by
            unfold globB; rw [(HG.out.none h0).2, glob_stuck mtB hi' HNO.out]
          have HF := Lib.hid hf
          have h00 : (st : Int) - 1 < 0 := by omega
          clear hf h0
          go_wp2
          go_quiet ((go_at_call 25; exact Calls.quiet_of_same ((lower_any _ _).mono fun _ _ h => ⟨h.1, h.2.symm⟩)))
          go_wp2
          go_ret
          exact ⟨ret_bool HF.out, below_drewN hb _⟩
        · have hn := ginv_back mtB HG.out hi' h0 HNO.out
          have HN := Lib.hid hn
          have h00 : 0 ≤ (st : Int) - 1 := by omega
          have h01 : 1 ≤ (st : Int) := by omega
          clear hn
          go_wp2
          go_quiet ((go_at_call 25; exact Calls.quiet_of_same ((lower_any _ _).mono fun _ _ h => ⟨h.1, h.2.symm⟩)))
          go_wp2
          go_roundw
          case rel => exact ⟨st, mk + 1, st, mk + 1, by go_num, by go_num, rfl, by go_num, HN.out, below_drewN hb _⟩
          case measure => simp [intOf]; omega
    · have hG' : GInv mtB P.data.toList S.data.toList p S.data.toList.length st mk := by
        have : i = S.data.toList.length := by rw [HS.out]; omega
        rw [← this]; exact hG
      have hE := ginv_end mtB hG'
      have HE := Lib.hid hE
      clear hE hG' hG
      go_wp2
      go_loop [5] (fun v => ∃ q : Nat, p ≤ q ∧ q ≤ P.size ∧ v = .int .i64 q ∧ Hid (∀ j, p ≤ j → j < q → P.data.toList.getD j 0 = 42)) (fun v => P.size - (intOf v).toNat)
      case atStart => exact ⟨p, Nat.le_refl _, hp, rfl, fun j h1 h2 => by omega⟩
      case round =>
        obtain ⟨q, hpq, hq, rfl, hall⟩ := hrel
        have q0 : (0 : Int) ≤ (q : Int) := by omega
        by_cases hql : q < P.size
        · have q1 : (q : Int) < (P.size : Int) := by omega
          have fq : ((q : Int) == (P.size : Int)) = false := by rw [beq_eq_false_iff_ne]; omega
          by_cases hs : P[q] = 42
          · have f1 : ((P[q].toNat : Int) == 42) = true := byte_eq_int P[q] 42 (by omega) hs
            have HQ : Hid (P.data.toList.getD q 0 = 42) := by show _ = _; rw [getD_data _ _ hql]; exact hs
            clear hs
            go_wp2
            go_round
            case rel =>
              refine ⟨q + 1, by omega, by omega, by go_num, fun j h1 h2 => ?_⟩
              rcases Nat.lt_or_ge j q with h | h
              · exact hall j h1 h
              · obtain rfl : j = q := by omega
                exact HQ
            case measure => simp [intOf]; omega
          · have f1 : ((P[q].toNat : Int) == 42) = false := byte_ne_int P[q] 42 (by omega) hs
            have hf : false = globB P S := by
              symm
              unfold globB
              rw [HE.out, Bool.eq_false_iff]
              intro he
              have := (glob_empty_iff mtB _).1 he P[q] (by
                rw [List.mem_iff_getElem]
                refine ⟨q - p, by simp; omega, ?_⟩
                rw [List.getElem_drop]
                simp only [show p + (q - p) = q by omega]; rfl)
              exact hs this
            have HF := Lib.hid hf
            clear hf hs
            go_wp2
            go_ret
            exact ⟨ret_bool HF.out, hb⟩
        · obtain rfl : q = P.size := by omega
          have hf : true = globB P S := by
            symm
            unfold globB
            rw [HE.out, glob_empty_iff]
            intro c hc
            obtain ⟨j, hj, rfl⟩ := List.mem_iff_getElem.1 hc
            have hj' : p + j < P.size := by simp at hj; omega
            have := hall (p + j) (by omega) hj'
            rw [getD_data _ _ hj'] at this
            rw [List.getElem_drop]; exact this
          have HF := Lib.hid hf
          clear hf
          go_wp2
          go_ret
          exact ⟨ret_bool HF.out, hb⟩
end Go.Proofs.Ythnpedkinelemaa
