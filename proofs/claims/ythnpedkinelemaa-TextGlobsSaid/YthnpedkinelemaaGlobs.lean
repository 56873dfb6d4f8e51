/- The law TextGlobs, walked. -/
import Derived.Test.YthnpedkinelemaaSmallWalk
import Derived.Test.YthnpedkinelemaaGlobMore
import Derived.Test.YthnpedkinelemaaSameDrew
import Derived.Deep.DeepCutAuto
namespace Go.Proofs.Ythnpedkinelemaa
open Go.RowKit Go.Shelf

theorem plain_step (P : ByteArray) (k : Nat) (h : k < P.size) : plainB (P.data.toList.take (k + 1)) = (plainB (P.data.toList.take k) && (P[k] != 42 && P[k] != 63)) := by
  rw [List.take_succ_eq_append_getElem (show k < P.data.toList.length from h)]
  simp only [plainB, List.all_append, List.all_cons, List.all_nil, Bool.and_true]
  rfl
theorem byte_neq (c : UInt8) (n : Nat) (hn : n < 256) : ((c.toNat : Int) != (n : Int)) = (c != UInt8.ofNat n) := by
  by_cases h : c = UInt8.ofNat n
  · have := byte_eq_int c n hn h
    simp only [bne, this]; rw [h]; simp
  · have := byte_ne_int c n hn h
    simp only [bne, this, beq_eq_false_iff_ne.2 h]

set_option maxRecDepth 100000 in
set_option maxHeartbeats 1000000 in
theorem globs_any (P S : ByteArray) (w : World) :
    Calls Try.prog 4 #[.string P, .string S] w fun e w' => e = .returned (.bool true) ∧ Below w.heap.size w w' := by
  by_cases hbig : 60 < P.size ∨ 60 < S.size
  · have h1 : (60 : Int) < P.size ∨ (60 : Int) < S.size := by omega
    go_enter Try.func4, Try.ntmps4
    go_wp2_with (go_at_call 7; refine (small_any _).mono ?_; rintro e w1 ⟨rfl, b1⟩)
    all_goals (try go_ret; try exact ⟨rfl, b1⟩)
    all_goals omega
  have hP1 : (P.size : Int) ≤ 60 := by omega
  have hS1 : (S.size : Int) ≤ 60 := by omega
  clear hbig
  have hG : ∀ w, Calls Try.prog 11 #[.string P, .string S] w fun e w' => e = .returned (.bool (globB P S)) ∧ Below w.heap.size w w' := fun w => Glob_any P S w (by omega) (by omega)
  rcases hPl : P.data.toList with _ | ⟨a, p⟩
  · have hPe : P.toList.isEmpty = true := by rw [Lib.toList_data, hPl]; rfl
    have hg : globB P S = S.toList.isEmpty := by rw [globB_nil P S hPl, Lib.toList_data]
    rw [hg] at hG
    have HG := Lib.hid hG
    clear hG hg hPl
    go_enter Try.func4, Try.ntmps4
    go_wp2_with (first
      | (go_at_call 7; refine (small_any _).mono ?_; rintro e w1 ⟨rfl, b1⟩)
      | (go_at_call 11; refine (HG.out _).mono ?_; rintro e w2 ⟨rfl, b2⟩))
    have l1 := b1.size
    go_ret
    exact ⟨ret_bool (by simp), b1.trans (b2.mono l1)⟩
  · have hPe : P.toList.isEmpty = false := by rw [Lib.toList_data, hPl]; rfl
    have hPn : P.size = p.length + 1 := by show P.data.toList.length = _; rw [hPl]; rfl
    have hPi : (1 : Int) ≤ P.size := by omega
    have hP0 : 0 < P.size := by omega
    have ha0 : P[0] = a := by rw [← getD_data P 0 hP0, hPl]; rfl
    have HPn := Lib.hid hPn
    have HPl := Lib.hid hPl
    clear hPl hPn
    obtain ⟨g, hg⟩ : ∃ g, globB P S = g := ⟨_, rfl⟩
    rw [hg] at hG
    have HG := Lib.hid hG
    clear hG
    go_enter Try.func4, Try.ntmps4
    go_upto_if 37 with (first
      | (go_at_call 7; refine (small_any _).mono ?_; rintro e w1 ⟨rfl, b1⟩)
      | (go_at_call 11; refine (HG.out _).mono ?_; rintro e w2 ⟨rfl, b2⟩))
    have l1 := b1.size
    have hB := b1.trans (b2.mono l1)
    clear l1 b1 b2
    go_cut [8] (fun s8 wx => s8 = .bool g ∧ Below w.heap.size w wx)
    case first =>
      by_cases ha : a = 42
      · have hq : ((a.toNat : Int) == 42) = true := by exact byte_eq_int a 42 (by omega) ha
        rcases hSl : S.data.toList with _ | ⟨c, r⟩
        · have hSe : S.toList.isEmpty = true := by rw [Lib.toList_data, hSl]; rfl
          have hR : ∀ w, Calls Try.prog 11 #[.string (P.extract 1 P.size), .string S] w fun e w' => e = .returned (.bool g) ∧ Below w.heap.size w w' := fun w => by
            have := Glob_any (P.extract 1 P.size) S w (by rw [ByteArray.size_extract]; omega) (by omega)
            rwa [globB_star_nil P S p (by rw [HPl.out, ha]) hSl, hg] at this
          have HR := Lib.hid hR
          clear hR hSl
          cases g
          · go_wp2_with (go_at_call 11; refine (HR.out _).mono ?_; rintro e w3 ⟨rfl, b3⟩)
            go_meet
            case rel => exact ⟨rfl, hB.trans (b3.mono hB.size)⟩
          · go_wp2_with (go_at_call 11; refine (HR.out _).mono ?_; rintro e w3 ⟨rfl, b3⟩)
            go_meet
            case rel => exact ⟨rfl, hB.trans (b3.mono hB.size)⟩
        · have hSe : S.toList.isEmpty = false := by rw [Lib.toList_data, hSl]; rfl
          have hSn : (1 : Int) ≤ S.size := by
            have : S.size = r.length + 1 := by show S.data.toList.length = _; rw [hSl]; rfl
            omega
          have hR : ∀ w, Calls Try.prog 11 #[.string (P.extract 1 P.size), .string S] w fun e w' => e = .returned (.bool (globB (P.extract 1 P.size) S)) ∧ Below w.heap.size w w' := fun w =>
            Glob_any (P.extract 1 P.size) S w (by rw [ByteArray.size_extract]; omega) (by omega)
          have hT : ∀ w, Calls Try.prog 11 #[.string P, .string (S.extract 1 S.size)] w fun e w' => e = .returned (.bool (globB P (S.extract 1 S.size))) ∧ Below w.heap.size w w' := fun w =>
            Glob_any P (S.extract 1 S.size) w (by omega) (by rw [ByteArray.size_extract]; omega)
          rw [globB_star_cons P S p c r (by rw [HPl.out, ha]) hSl] at hg
          clear hSl
          obtain ⟨g1, hg1⟩ : ∃ g1, globB (P.extract 1 P.size) S = g1 := ⟨_, rfl⟩
          obtain ⟨g2, hg2⟩ : ∃ g2, globB P (S.extract 1 S.size) = g2 := ⟨_, rfl⟩
          rw [hg1] at hR hg
          rw [hg2] at hT hg
          clear hg1 hg2
          have HR := Lib.hid hR
          have HT := Lib.hid hT
          clear hR hT
          subst hg
          cases g1
          · go_wp2_with (go_at_call 11; refine (HR.out _).mono ?_)
            rintro e w3 ⟨rfl, b3⟩
            have l3 := b3.size
            go_wp2_with (go_at_call 11; refine (HT.out _).mono ?_)
            rintro e w4 ⟨rfl, b4⟩
            go_wp2
            go_meet
            case rel => exact ⟨by simp, hB.trans ((b3.mono hB.size).trans (b4.mono (Nat.le_trans hB.size l3)))⟩
          · go_wp2_with (go_at_call 11; refine (HR.out _).mono ?_)
            rintro e w3 ⟨rfl, b3⟩
            go_wp2
            go_meet
            case rel => exact ⟨by simp, hB.trans (b3.mono hB.size)⟩
      · have hq : ((a.toNat : Int) == 42) = false := by exact byte_ne_int a 42 (by omega) ha
        rcases hSl : S.data.toList with _ | ⟨c, r⟩
        · have hSe : S.toList.isEmpty = true := by rw [Lib.toList_data, hSl]; rfl
          rw [globB_other_nil P S a p HPl.out ha hSl] at hg
          subst hg
          clear hSl
          go_wp2
          go_quiet (fail)
          go_wp2
          go_meet
          case rel => exact ⟨rfl, below_drewN hB _⟩
        · have hSe : S.toList.isEmpty = false := by rw [Lib.toList_data, hSl]; rfl
          have hSn : (1 : Int) ≤ S.size := by
            have : S.size = r.length + 1 := by show S.data.toList.length = _; rw [hSl]; rfl
            omega
          have hU : ∀ w, Calls Try.prog 12 #[.string (P.extract 0 1), .string (S.extract 0 1)] w fun e w' => e = .returned (.bool (lowB a == lowB c)) ∧ ∃ n, w' = w.drewN n := fun w => by
            have := Same_drew (P.extract 0 1) (S.extract 0 1) w (by rw [ByteArray.size_extract]; omega)
            rwa [sameB_heads P S a p c r HPl.out hSl] at this
          have hR : ∀ w, Calls Try.prog 11 #[.string (P.extract 1 P.size), .string (S.extract 1 S.size)] w fun e w' => e = .returned (.bool (globB (P.extract 1 P.size) (S.extract 1 S.size))) ∧ Below w.heap.size w w' := fun w =>
            Glob_any (P.extract 1 P.size) _ w (by rw [ByteArray.size_extract]; omega) (by rw [ByteArray.size_extract]; omega)
          rw [globB_other_cons P S a p c r HPl.out ha hSl] at hg
          clear hSl
          obtain ⟨g2, hg2⟩ : ∃ g2, globB (P.extract 1 P.size) (S.extract 1 S.size) = g2 := ⟨_, rfl⟩
          rw [hg2] at hR hg
          clear hg2
          have HR := Lib.hid hR
          clear hR
          by_cases h63 : a = 63
          · have hq2 : ((a.toNat : Int) == 63) = true := byte_eq_int a 63 (by omega) h63
            have hm : mtB a c = true := by rw [h63]; rfl
            rw [hm, Bool.true_and] at hg
            subst hg
            clear hm h63 ha hU
            go_wp2
            go_quiet (fail)
            go_wp2_with (go_at_call 11; refine (HR.out _).mono ?_; rintro e w3 ⟨rfl, b3⟩)
            go_meet
            case rel => exact ⟨rfl, (below_drewN hB _).trans (b3.mono hB.size)⟩
          · have hq2 : ((a.toNat : Int) == 63) = false := byte_ne_int a 63 (by omega) h63
            have hm : mtB a c = (lowB a == lowB c) := by
              have : (a == 63) = false := by rw [beq_eq_false_iff_ne]; exact h63
              simp only [mtB, this, Bool.false_or]
            rw [hm] at hg
            obtain ⟨m, hmm⟩ : ∃ m, (lowB a == lowB c) = m := ⟨_, rfl⟩
            rw [hmm] at hU hg
            clear hm hmm h63 ha
            have HU := Lib.hid hU
            clear hU
            subst hg
            cases m
            · go_wp2
              go_quiet ((go_at_call 12; exact Calls.quiet_of (HU.out _)))
              go_wp2
              go_meet
              case rel => exact ⟨rfl, below_drewN hB _⟩
            · go_wp2
              go_quiet ((go_at_call 12; exact Calls.quiet_of (HU.out _)))
              go_wp2_with (go_at_call 11; refine (HR.out _).mono ?_; rintro e w3 ⟨rfl, b3⟩)
              go_meet
              case rel => exact ⟨rfl, (below_drewN hB _).trans (b3.mono hB.size)⟩
    case rest =>
      obtain ⟨rfl, hB2⟩ := hcut
      clear ha0 hB
      go_wp2
      go_loopw [9, 10] (fun pv i wr => ∃ (k : Nat) (pl : Bool), k ≤ P.size ∧ i = .int .i64 k ∧ pv = .bool pl ∧ Hid (pl = plainB (P.data.toList.take k)) ∧ Below w.heap.size w wr) (fun _ i _ => P.size - (intOf i).toNat)
      case atStart => exact ⟨0, true, Nat.zero_le _, rfl, rfl, rfl, hB2⟩
      case round =>
        obtain ⟨k, pl, hk, rfl, rfl, hpl, hB3⟩ := hrel
        by_cases hlt : k < P.size
        · have hst := plain_step P k hlt
          have e1 := byte_neq P[k] 42 (by omega)
          have e2 := byte_neq P[k] 63 (by omega)
          obtain ⟨x1, hx1⟩ : ∃ x, ((P[k].toNat : Int) != 42) = x := ⟨_, rfl⟩
          obtain ⟨x2, hx2⟩ : ∃ x, ((P[k].toNat : Int) != 63) = x := ⟨_, rfl⟩
          have hst2 : plainB (P.data.toList.take (k + 1)) = (pl && (x1 && x2)) := by
            rw [hst, hpl.out, ← hx1, ← hx2]; rw [show ((42 : Int)) = ((42 : Nat) : Int) from rfl, show ((63 : Int)) = ((63 : Nat) : Int) from rfl, e1, e2]; rfl
          have HST := Lib.hid hst2
          clear hst e1 e2 hst2 hpl
          cases pl
          · go_wp2
            go_roundw
            case rel => exact ⟨k + 1, false, by omega, by go_num, rfl, by show _ = _; rw [HST.out]; rfl, hB3⟩
            case measure => simp only [intOf]; omega
          · cases x1
            · go_wp2
              go_roundw
              case rel => exact ⟨k + 1, false, by omega, by go_num, rfl, by show _ = _; rw [HST.out]; rfl, hB3⟩
              case measure => simp only [intOf]; omega
            · go_wp2
              go_roundw
              case rel => exact ⟨k + 1, x2, by omega, by go_num, by simp, by show _ = _; rw [HST.out]; rfl, hB3⟩
              case measure => simp only [intOf]; omega
        · have hpl2 : pl = plainB P.data.toList := by
            have e : k = P.size := by omega
            have h2 : P.data.toList.take P.size = P.data.toList := List.take_of_length_le (Nat.le_refl _)
            rw [hpl.out, e, h2]
          clear hpl
          have hSt : ∀ w, Calls Try.prog 11 #[.string ⟨#[42]⟩, .string S] w fun e w' => e = .returned (.bool true) ∧ Below w.heap.size w w' := fun w => by
            have := Glob_any ⟨#[42]⟩ S w (by decide) (by omega)
            rwa [globB_star_all] at this
          have HSt := Lib.hid hSt
          clear hSt
          have hSm : pl = true → ∀ w, Calls Try.prog 12 #[.string P, .string S] w fun e w' => e = .returned (.bool g) ∧ Below w.heap.size w w' := fun h w => by
            have := Same_any P S w (by omega)
            rwa [← globB_plain P S (by rw [← hpl2, h]), hg] at this
          have HSm := Lib.hid hSm
          clear hSm hpl2
          cases g
          · clear hg
            cases pl
            · go_wp2_with (go_at_call 11; refine (HSt.out _).mono ?_)
              rintro e w5 ⟨rfl, b5⟩
              go_wp2_with (go_at_call 11; refine (HG.out _).mono ?_)
              rintro e w6 ⟨rfl, b6⟩
              go_wp2
              have l5 := b5.size; have l3 := hB3.size
              go_ret
              exact ⟨rfl, (hB3.trans (b5.mono l3)).trans (b6.mono (by omega))⟩
            · have HSm2 := Lib.hid (HSm.out rfl)
              clear HSm
              go_wp2_with (go_at_call 12; refine (HSm2.out _).mono ?_)
              rintro e w4 ⟨rfl, b4⟩
              go_wp2_with (go_at_call 11; refine (HSt.out _).mono ?_)
              rintro e w5 ⟨rfl, b5⟩
              go_wp2_with (go_at_call 11; refine (HG.out _).mono ?_)
              rintro e w6 ⟨rfl, b6⟩
              go_wp2
              have l5 := b5.size; have l4 := b4.size; have l3 := hB3.size
              go_ret
              exact ⟨rfl, ((hB3.trans (b4.mono l3)).trans (b5.mono (by omega))).trans (b6.mono (by omega))⟩
          · have hWr : ∀ w, Calls Try.prog 11 #[.string (⟨#[42]⟩ ++ P ++ ⟨#[42]⟩), .string (⟨#[120]⟩ ++ S ++ ⟨#[121]⟩)] w fun e w' => e = .returned (.bool true) ∧ Below w.heap.size w w' := fun w => by
              have hq1 : (⟨#[42]⟩ ++ P ++ ⟨#[42]⟩ : ByteArray).data.toList = 42 :: (P.data.toList ++ [42]) := by
                rw [ByteArray.data_append, ByteArray.data_append, Array.toList_append, Array.toList_append]; rfl
              have hq2 : (⟨#[120]⟩ ++ S ++ ⟨#[121]⟩ : ByteArray).data.toList = 120 :: (S.data.toList ++ [121]) := by
                rw [ByteArray.data_append, ByteArray.data_append, Array.toList_append, Array.toList_append]; rfl
              have hz1 : (⟨#[42]⟩ ++ P ++ ⟨#[42]⟩ : ByteArray).size = P.size + 2 := by
                show (⟨#[42]⟩ ++ P ++ ⟨#[42]⟩ : ByteArray).data.toList.length = P.data.toList.length + 2
                rw [hq1]; simp only [List.length_cons, List.length_append, List.length_nil]
              have hz2 : (⟨#[120]⟩ ++ S ++ ⟨#[121]⟩ : ByteArray).size = S.size + 2 := by
                show (⟨#[120]⟩ ++ S ++ ⟨#[121]⟩ : ByteArray).data.toList.length = S.data.toList.length + 2
                rw [hq2]; simp only [List.length_cons, List.length_append, List.length_nil]
              have := Glob_any (⟨#[42]⟩ ++ P ++ ⟨#[42]⟩) (⟨#[120]⟩ ++ S ++ ⟨#[121]⟩) w (by omega) (by omega)
              rwa [globB_wrapped P S _ _ hq1 hq2 hg] at this
            have HWr := Lib.hid hWr
            clear hWr hg
            cases pl
            · go_wp2_with (go_at_call 11; refine (HSt.out _).mono ?_)
              rintro e w5 ⟨rfl, b5⟩
              go_wp2_with (go_at_call 11; refine (HG.out _).mono ?_)
              rintro e w6 ⟨rfl, b6⟩
              go_wp2_with (go_at_call 11; refine (HWr.out _).mono ?_)
              rintro e w7 ⟨rfl, b7⟩
              go_wp2
              have l5 := b5.size; have l3 := hB3.size; have l6 := b6.size
              go_ret
              exact ⟨rfl, ((hB3.trans (b5.mono l3)).trans (b6.mono (by omega))).trans (b7.mono (by omega))⟩
            · have HSm2 := Lib.hid (HSm.out rfl)
              clear HSm
              go_wp2_with (go_at_call 12; refine (HSm2.out _).mono ?_)
              rintro e w4 ⟨rfl, b4⟩
              go_wp2_with (go_at_call 11; refine (HSt.out _).mono ?_)
              rintro e w5 ⟨rfl, b5⟩
              go_wp2_with (go_at_call 11; refine (HG.out _).mono ?_)
              rintro e w6 ⟨rfl, b6⟩
              go_wp2_with (go_at_call 11; refine (HWr.out _).mono ?_)
              rintro e w7 ⟨rfl, b7⟩
              go_wp2
              have l5 := b5.size; have l4 := b4.size; have l3 := hB3.size; have l6 := b6.size
              go_ret
              exact ⟨rfl, (((hB3.trans (b4.mono l3)).trans (b5.mono (by omega))).trans (b6.mono (by omega))).trans (b7.mono (by omega))⟩
end Go.Proofs.Ythnpedkinelemaa
