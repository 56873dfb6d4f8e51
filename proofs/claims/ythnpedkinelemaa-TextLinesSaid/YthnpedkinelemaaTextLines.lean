/- The law TextLines, walked. -/
import Derived.Test.YthnpedkinelemaaSmallWalk
import Derived.Test.YthnpedkinelemaaLinesMore
import Derived.Deep.DeepCutAuto
namespace Go.Proofs.Ythnpedkinelemaa
open Go.RowKit Go.Shelf

set_option maxRecDepth 100000 in
set_option maxHeartbeats 1000000 in
theorem lines_any (v : Value) (xs : List ByteArray) (s : ByteArray) (w : World) (hv : Strs w w.heap.size v xs) (hl : xs.length ≤ 9223372036854775807) (hzs : ∀ j, j < xs.length → (nth xs j).size ≤ 9223372036854775807) :
    Calls Try.prog 3 #[v, .string s] w fun e w' => e = .returned (.bool true) ∧ Below w.heap.size w w' := by
  obtain ⟨x, cap, rfl, hc⟩ := hv
  have HZ := Lib.hid hzs
  clear hzs
  have hC := Lib.hid hc
  clear hc
  by_cases hbig : 40 < xs.length ∨ 300 < s.size
  · have h1 : (40 : Int) < xs.length ∨ (300 : Int) < s.size := by omega
    go_enter Try.func3, Try.ntmps3
    go_wp2_with (go_at_call 7; refine (small_any _).mono ?_; rintro e w1 ⟨rfl, b1⟩)
    all_goals (try go_ret; try exact ⟨rfl, b1⟩)
    all_goals omega
  have hP1 : (xs.length : Int) ≤ 40 := by omega
  have hS1 : (s.size : Int) ≤ 300 := by omega
  clear hbig hl
  have hLn : ∀ w, Calls Try.prog 8 #[.string s] w fun e w' => ∃ v ys, e = .returned v ∧ lists ys = linesP s.data.toList ∧ Strs w' w'.heap.size v ys ∧ Below w.heap.size w w' := fun w => by
    refine (Lines_any s w (by omega)).mono ?_
    rintro e w' ⟨v, ys, rfl, hys, hown, hb⟩
    exact ⟨v, ys, rfl, hys, Strs.of_own hown, hb⟩
  go_enter Try.func3, Try.ntmps3
  go_wp2_with (go_at_call 7; refine (small_any _).mono ?_)
  rintro e w1 ⟨rfl, b1⟩
  go_wp2_with (go_at_call 8; refine (hLn _).mono ?_)
  rintro e w2 ⟨v2, ys, rfl, hys, ⟨x2, cap2, rfl, hc2⟩, b2⟩
  have l1 := b1.size
  have hB2 := b1.trans (b2.mono l1)
  have hC2 := Lib.hid hc2
  clear hc2 b1 b2 hLn l1
  have hfa := lines_facts _ s.data.toList (Nat.le_refl _)
  rw [← hys] at hfa
  have hyl : ys.length ≤ 300 := by
    have h1 := hfa.1
    have h2 : (lists ys).length = ys.length := by simp [lists]
    have h3 : s.data.toList.length = s.size := rfl
    omega
  have hyt : ∀ i, i < ys.length → (nth ys i).size ≤ 300 ∧ 10 ∉ (nth ys i).data.toList := fun i hi => by
    have hm : (nth ys i).data.toList ∈ lists ys := by
      rw [nth_lt _ _ hi]; exact List.mem_map.2 ⟨_, List.getElem_mem _, rfl⟩
    obtain ⟨h1, h2⟩ := hfa.2 _ hm
    have h3 : s.data.toList.length = s.size := rfl
    have h4 : (nth ys i).data.toList.length = (nth ys i).size := rfl
    exact ⟨by omega, h1⟩
  have HY := Lib.hid hyt
  clear hyt hfa hys
  go_wp2
  go_loopw [7] (fun i wr => ∃ k : Nat, k ≤ ys.length ∧ i = .int .i64 k ∧ wr = w2) (fun i _ => ys.length - (intOf i).toNat)
  case atStart => exact ⟨0, Nat.zero_le _, rfl, rfl⟩
  case round =>
    obtain ⟨i, hi, rfl, hwr⟩ := hrel
    have hwr2 := hwr.symm
    subst hwr2
    by_cases hlt : i < ys.length
    · obtain ⟨b, off, hb, rfl, hcb⟩ := hC2.out i hlt
      obtain ⟨hz, hno⟩ := HY.out i hlt
      obtain ⟨y, hy⟩ : ∃ y, nth ys i = y := ⟨_, rfl⟩
      rw [hy] at hcb hz hno
      have HN := Lib.hid hno
      clear hno hy
      go_wp2
      go_loopw [8] (fun kv w' => ∃ k : Nat, k ≤ y.size ∧ kv = .int .i64 k ∧ w' = w2) (fun kv _ => y.size - (intOf kv).toNat)
      case atStart => exact ⟨0, Nat.zero_le _, rfl, rfl⟩
      case round =>
        obtain ⟨k, hk, rfl, hwr⟩ := hrel
        have hwr2 := hwr.symm
        subst hwr2
        by_cases hkl : k < y.size
        · have hne : ((y[k].toNat : Int) == 10) = false := byte_ne_int y[k] 10 (by omega) (fun e => HN.out (by
            have : y[k] ∈ y.data.toList := by rw [← getD_data y k hkl, getD_lt _ _ (by exact hkl)]; exact List.getElem_mem _
            rw [e] at this; exact this))
          go_wp2
          go_roundw
          case rel => exact ⟨k + 1, by omega, by go_num, trivial⟩
          case measure => simp only [intOf]; omega
        · go_wp2
          go_roundw
          case rel => exact ⟨i + 1, by omega, by go_num, trivial⟩
          case measure => simp only [intOf]; omega
    · clear hC2 HY hwr hyl
      go_wp2
      go_loopw [9, 10] (fun cv iv wr => ∃ (i : Nat) (cr : ByteArray), i ≤ xs.length ∧ iv = .int .i64 i ∧ cv = .string cr ∧ Hid (cr.data.toList = crP (lists (xs.take i))) ∧ Hid (∀ j, j < i → fine (nth xs j).data.toList ∧ (nth xs j).size ≤ 300) ∧ cr.size ≤ 302 * i ∧ Below w.heap.size w wr) (fun _ iv _ => xs.length - (intOf iv).toNat)
      case atStart => exact ⟨0, ⟨#[]⟩, Nat.zero_le _, rfl, rfl, rfl, fun j hj => by omega, Nat.le_refl _, hB2⟩
      case round =>
        obtain ⟨i, cr, hi, rfl, rfl, hcr, hfine, hcz, hB3⟩ := hrel
        clear hB2
        by_cases hlt : i < xs.length
        · obtain ⟨b, off, hb, rfl, hcb⟩ := hC.out i hlt
          have q := (hB3.cell (p := ⟨b, off + i, none⟩) hb).trans hcb
          obtain ⟨y, hy⟩ : ∃ y, nth xs i = y := ⟨_, rfl⟩
          have hz := HZ.out i hlt
          rw [hy] at q hz
          have HYe := Lib.hid hy
          clear hcb hy
          obtain ⟨wo, hwo⟩ : ∃ wo : World, wo = wr := ⟨_, rfl⟩
          subst hwo
          go_wp2
          go_loopw [11] (fun kv w' => ∃ k : Nat, k ≤ y.size ∧ kv = .int .i64 k ∧ Hid (∀ m, ∀ h : m < y.size, m < k → y[m] ≠ 10) ∧ w' = wo) (fun kv _ => y.size - (intOf kv).toNat)
          case atStart => exact ⟨0, Nat.zero_le _, rfl, fun m _ h => by omega, rfl⟩
          case round =>
            obtain ⟨k, hk, rfl, hno, hwr⟩ := hrel
            have hwr2 := hwr.symm
            subst hwr2
            by_cases hkl : k < y.size
            · by_cases h10 : y[k] = 10
              · have hq : ((y[k].toNat : Int) == 10) = true := byte_eq_int y[k] 10 (by omega) h10
                have H10 := Lib.hid h10
                clear h10
                go_wp2
                go_ret
                exact ⟨rfl, hB3⟩
              · have hq : ((y[k].toNat : Int) == 10) = false := byte_ne_int y[k] 10 (by omega) h10
                have H10 := Lib.hid h10
                clear h10
                go_wp2
                go_roundw
                case rel =>
                  refine ⟨k + 1, by omega, by go_num, fun m hm hmk => ?_, by trivial⟩
                  by_cases e : m = k
                  · subst e; exact H10.out
                  · exact hno m hm (by omega)
                case measure => simp only [intOf]; omega
            · have hno2 : 10 ∉ y.data.toList := by
                intro hm
                obtain ⟨m, hm1, e⟩ := List.getElem_of_mem hm
                exact hno m hm1 (by have : m < y.size := hm1; omega) e
              have HN := Lib.hid hno2
              clear hno2 hno
              have hcz2 : cr.size ≤ 12080 := by omega
              by_cases hye : y.data.toList = []
              · have he : (!y.toList.isEmpty) = false := by rw [Lib.toList_data, hye]; rfl
                have hsz : y.size = 0 := by show y.data.toList.length = 0; rw [hye]; rfl
                have HF := Lib.hid (fine_of HN.out (.inl hye))
                clear hye
                go_wp2
                go_quiet (fail)
                go_wp2
                go_roundw
                case rel =>
                  refine ⟨i + 1, cr ++ y ++ ⟨#[13, 10]⟩, by omega, by go_num, rfl, ?_, fun j hj => ?_, ?_, below_drewN hB3 _⟩
                  · show _ = _
                    rw [ByteArray.data_append, ByteArray.data_append, Array.toList_append, Array.toList_append, hcr.out, lists_take _ _ hlt, crP_append, HYe.out]
                  · by_cases e : j = i
                    · subst e; rw [HYe.out]; exact ⟨HF.out, by omega⟩
                    · exact hfine j (by omega)
                  · rw [ByteArray.size_append, ByteArray.size_append]; show cr.size + y.size + 2 ≤ _; omega
                case measure => simp only [intOf]; omega
              · have he : (!y.toList.isEmpty) = true := by rw [Lib.toList_data]; simpa using hye
                have hpos : 0 < y.size := List.length_pos_iff.2 hye
                obtain ⟨m, hm⟩ : ∃ m, y.size = m + 1 := ⟨y.size - 1, by omega⟩
                have hmi : (m : Int) < y.size := by omega
                have hml : m < y.size := by omega
                have hw : IntKind.i64.wrap ((y.size : Int) - 1) = m := by rw [Go.IntWalk.i64_in _ (by omega)]; omega
                have hgl : y.data.toList.getLast hye = y[m] := by
                  rw [List.getLast_eq_getElem, ← getD_data y m hml, getD_lt _ _ hml]
                  congr 1
                  show y.size - 1 = m; omega
                have HM := Lib.hid hm
                clear hm
                by_cases h13 : y[m] = 13
                · have hq : ((y[m].toNat : Int) == 13) = true := byte_eq_int y[m] 13 (by omega) h13
                  clear hgl h13
                  go_wp2
                  go_quiet (fail)
                  go_wp2
                  go_ret
                  exact ⟨rfl, below_drewN hB3 _⟩
                · have hq : ((y[m].toNat : Int) == 13) = false := byte_ne_int y[m] 13 (by omega) h13
                  have HF := Lib.hid (fine_of HN.out (.inr ⟨hye, by rw [hgl]; exact h13⟩))
                  clear hgl h13
                  by_cases hbig : 300 < y.size
                  · have hb1 : (300 : Int) < y.size := by omega
                    go_wp2
                    go_quiet (fail)
                    go_wp2
                    go_ret
                    exact ⟨rfl, below_drewN hB3 _⟩
                  · have hb1 : (y.size : Int) ≤ 300 := by omega
                    go_wp2
                    go_quiet (fail)
                    go_wp2
                    go_roundw
                    case rel =>
                      refine ⟨i + 1, cr ++ y ++ ⟨#[13, 10]⟩, by omega, by go_num, rfl, ?_, fun j hj => ?_, ?_, below_drewN hB3 _⟩
                      · show _ = _
                        rw [ByteArray.data_append, ByteArray.data_append, Array.toList_append, Array.toList_append, hcr.out, lists_take _ _ hlt, crP_append, HYe.out]
                      · by_cases e : j = i
                        · subst e; rw [HYe.out]; exact ⟨HF.out, by omega⟩
                        · exact hfine j (by omega)
                      · rw [ByteArray.size_append, ByteArray.size_append]; show cr.size + y.size + 2 ≤ _; omega
                    case measure => simp only [intOf]; omega
        · have hie : xs.take i = xs := by rw [show i = xs.length by omega, List.take_length]
          have HFi := Lib.hid (fun j (hj : j < xs.length) => hfine.out j (by omega))
          have HCr := Lib.hid (hcr.out.trans (by rw [hie]))
          clear hcr hfine hie
          obtain ⟨v, hv⟩ : ∃ v, v = Value.slice x xs.length cap := ⟨_, rfl⟩
          have hStr : ∀ w', Below w.heap.size w w' → Strs w' w'.heap.size v xs := fun w' hb => by
            rw [hv]; exact ((show Strs w w.heap.size _ xs from ⟨x, cap, rfl, hC.out⟩).below hb).mono hb.size
          obtain ⟨T, hT⟩ : ∃ T : ByteArray, T = ⟨(unP (lists xs)).toArray⟩ := ⟨_, rfl⟩
          have hTd : T.data.toList = unP (lists xs) := by rw [hT]
          have hfi : ∀ y ∈ lists xs, fine y := by
            intro y hy
            obtain ⟨b, hb, rfl⟩ := List.mem_map.1 hy
            obtain ⟨j, hj, rfl⟩ := List.getElem_of_mem hb
            have := (HFi.out j hj).1; rwa [nth_lt _ _ hj] at this
          have hTz : T.size ≤ 12040 := by
            have h1 := unP_length xs 300 (fun j hj => (HFi.out j hj).2) xs.length (Nat.le_refl _)
            rw [List.take_length, ← hTd] at h1
            have h2 : T.data.toList.length = T.size := rfl
            have h3 : xs.length * (300 + 1) ≤ 40 * 301 := Nat.mul_le_mul (by omega) (by omega)
            omega
          have hU : ∀ w', Below w.heap.size w w' → Calls Try.prog 9 #[v] w' fun e w'' => e = .returned (.string T) ∧ Below w'.heap.size w' w'' := fun w' hb => by
            rw [hT]; exact Unlines_any v xs w' (by omega) (fun j hj => by have := (HFi.out j hj).2; omega) (hStr w' hb)
          have hL1 : ∀ w', Calls Try.prog 8 #[.string T] w' fun e w'' => ∃ v, e = .returned v ∧ Strs w'' w''.heap.size v xs ∧ Below w'.heap.size w' w'' := fun w' =>
            Lines_reads T xs w' (by omega) (by rw [hTd]; exact lines_unP _ hfi)
          have hL2 : ∀ w', Calls Try.prog 8 #[.string cr] w' fun e w'' => ∃ v, e = .returned v ∧ Strs w'' w''.heap.size v xs ∧ Below w'.heap.size w' w'' := fun w' =>
            Lines_reads cr xs w' (by omega) (by rw [HCr.out]; exact lines_crP _ hfi)
          have hS : ∀ w' u, Strs w' w'.heap.size u xs → Below w.heap.size w w' → Calls Try.prog 10 #[u, v] w' fun e w'' => e = .returned (.bool true) ∧ Below w'.heap.size w' w'' := fun w' u hu hb => by
            have := Strings_any u v xs xs w' (by omega) hu (hStr w' hb)
            rwa [decide_eq_true rfl] at this
          have HU := Lib.hid hU
          have HL1 := Lib.hid hL1
          have HL2 := Lib.hid hL2
          have HS := Lib.hid hS
          have HTd := Lib.hid hTd
          have HFine := Lib.hid hfi
          clear hU hL1 hL2 hS hTd hfi hStr hT
          go_wp2_with (go_at_call 9; rw [← hv]; refine (HU.out _ hB3).mono ?_)
          rintro e w5 ⟨rfl, b5⟩
          have hB5 := hB3.trans (b5.mono hB3.size)
          go_wp2_with (go_at_call 8; refine (HL1.out _).mono ?_)
          rintro e w6 ⟨v6, rfl, hs6, b6⟩
          have hB6 := hB5.trans (b6.mono hB5.size)
          go_wp2_with (go_at_call 10; rw [← hv]; refine (HS.out _ _ hs6 hB6).mono ?_)
          rintro e w7 ⟨rfl, b7⟩
          have hB7 := hB6.trans (b7.mono hB6.size)
          go_wp2_with (go_at_call 8; refine (HL2.out _).mono ?_)
          rintro e w8 ⟨v8, rfl, hs8, b8⟩
          have hB8 := hB7.trans (b8.mono hB7.size)
          go_wp2_with (go_at_call 10; rw [← hv]; refine (HS.out _ _ hs8 hB8).mono ?_)
          rintro e w9 ⟨rfl, b9⟩
          have hB9 := hB8.trans (b9.mono hB8.size)
          by_cases hx0 : xs.length = 0
          · have hx1 : (xs.length : Int) = 0 := by omega
            clear hx0
            go_wp2
            go_ret
            exact ⟨rfl, hB9⟩
          · have hx1 : (0 : Int) < xs.length := by omega
            obtain ⟨n, hn⟩ : ∃ n, xs.length = n + 1 := ⟨xs.length - 1, by omega⟩
            have hw : IntKind.i64.wrap ((xs.length : Int) - 1) = n := by rw [Go.IntWalk.i64_in _ (by omega)]; omega
            have hw2 : (xs.length : Int) - 1 = n := by omega
            have hnl : n < xs.length := by omega
            have hni : (n : Int) < xs.length := by omega
            obtain ⟨b, off, hbk, rfl, hcl⟩ := hC.out n hnl
            have q := (hB9.cell (p := ⟨b, off + n, none⟩) hbk).trans hcl
            obtain ⟨z, hz⟩ : ∃ z, nth xs n = z := ⟨_, rfl⟩
            rw [hz] at q
            have HZz := Lib.hid hz
            have HN := Lib.hid hn
            clear hcl hz hn hx0
            by_cases hze : z.data.toList = []
            · have he : (!z.toList.isEmpty) = false := by rw [Lib.toList_data, hze]; rfl
              clear hze
              go_wp2
              go_ret
              exact ⟨rfl, hB9⟩
            · have he : (!z.toList.isEmpty) = true := by rw [Lib.toList_data]; simpa using hze
              have hne : lists xs ≠ [] := by intro e; have h1 := congrArg List.length e; simp only [lists, List.length_map, List.length_nil] at h1; have h2 := HN.out; omega
              have hlast : (lists xs).getLast hne = z.data.toList := by
                rw [List.getLast_eq_getElem]
                simp only [lists, List.getElem_map, List.length_map]
                rw [← HZz.out, nth_lt _ _ hnl]
                have e : xs.length - 1 = n := by have := HN.out; omega
                simp only [e]
              have hTne : T.data.toList ≠ [] := by
                rw [HTd.out]; intro e
                have e2 := lines_unP (lists xs) HFine.out
                rw [e, linesP_nil] at e2; exact hne e2.symm
              have hTe : T.toList.isEmpty = false := by rw [Lib.toList_data]; simpa using hTne
              have hTp : 0 < T.size := List.length_pos_iff.2 hTne
              obtain ⟨m, hm⟩ : ∃ m, T.size = m + 1 := ⟨T.size - 1, by omega⟩
              have hw3 : (T.size : Int) - 1 = m := by omega
              have hmT : (m : Int) ≤ T.size := by omega
              have hL3 : ∀ w', Calls Try.prog 8 #[.string (T.extract 0 m)] w' fun e w'' => ∃ v, e = .returned v ∧ Strs w'' w''.heap.size v xs ∧ Below w'.heap.size w' w'' := fun w' =>
                Lines_reads (T.extract 0 m) xs w' (by rw [ByteArray.size_extract]; omega) (by
                  rw [Lib.extract_data, List.drop_zero, Nat.sub_zero]
                  have h1 : m = (unP (lists xs)).length - 1 := by rw [← HTd.out]; show m = T.size - 1; omega
                  rw [HTd.out, h1]
                  exact lines_cut _ HFine.out hne (by rw [hlast]; exact hze))
              have HL3 := Lib.hid hL3
              clear hL3 hm hTne hlast hne hze
              go_wp2_with (go_at_call 8; refine (HL3.out _).mono ?_)
              rintro e w10 ⟨v10, rfl, hs10, b10⟩
              have hB10 := hB9.trans (b10.mono hB9.size)
              go_wp2_with (go_at_call 10; rw [← hv]; refine (HS.out _ _ hs10 hB10).mono ?_)
              rintro e w11 ⟨rfl, b11⟩
              have hB11 := hB10.trans (b11.mono hB10.size)
              go_wp2
              go_ret
              exact ⟨rfl, hB11⟩
end Go.Proofs.Ythnpedkinelemaa
