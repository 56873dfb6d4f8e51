/- The law TextWords, walked. -/
import Derived.Test.YthnpedkinelemaaSmallWalk
import Derived.Test.YthnpedkinelemaaWordsSq
import Derived.Test.YthnpedkinelemaaAppend
import Derived.Deep.DeepCutAuto
namespace Go.Proofs.Ythnpedkinelemaa
open Go.RowKit Go.Shelf

theorem Fields_any (s : ByteArray) (w : World) (hs : s.size ≤ 1000000) :
    Calls Try.prog 13 #[.string s] w fun e w' => ∃ (v : Value) (ys : List ByteArray), e = .returned v ∧ lists ys = wordsP whiteB s.data.toList ∧ w'.ownsRow w.heap.size 9 1 v ys.length (strVals ys) ∧ Below w.heap.size w w' :=
  callsIn_wide.1 (Fields_in Fence.wide 5 trivial trivial trivial trivial rfl (by omega) s hs w)

/-- The slice that Fields hands back reads as a list that is known. -/
theorem Fields_reads (s : ByteArray) (zs : List ByteArray) (w : World) (hs : s.size ≤ 1000000) (hz : wordsP whiteB s.data.toList = lists zs) :
    Calls Try.prog 13 #[.string s] w fun e w' => ∃ v, e = .returned v ∧ Strs w' w'.heap.size v zs ∧ Below w.heap.size w w' := by
  refine (Fields_any s w hs).mono ?_
  rintro e w' ⟨v, ys, rfl, hys, hown, hb⟩
  obtain rfl : ys = zs := lists_inj (hys.trans hz)
  exact ⟨v, rfl, Strs.of_own hown, hb⟩
theorem own_nil {w : World} {B n : Nat} {v : Value} {xs : List Value} (h : w.ownsRow B 9 1 v n xs) : ∀ k c, v = .slice none k c → c = 0 := by
  intro k c e
  rcases h.2 with ⟨rfl, _⟩ | ⟨g, cap, cur, rfl, _⟩
  · cases e; rfl
  · cases e
theorem own_below {w w' : World} {B e n : Nat} {v : Value} {xs : List Value} (h : w.ownsRow B e 1 v n xs) (hb : Below w.heap.size w w') : w'.ownsRow B e 1 v n xs :=
  World.ownsRow.kept (row := none) h ⟨hb.os, hb.tape, hb.output, hb.size, fun k hk _ => hb.block k hk⟩ (by
    cases hv : v.ownBlock with
    | none => exact .inl rfl
    | some _ => exact .inr (by simp))
theorem Fields_reads2 (s : ByteArray) (zs : List ByteArray) (w : World) (hs : s.size ≤ 1000000) (hz : wordsP whiteB s.data.toList = lists zs) :
    Calls Try.prog 13 #[.string s] w fun e w' => ∃ v, e = .returned v ∧ Strs w' w'.heap.size v zs ∧ (∀ k c, v = .slice none k c → c = 0) ∧ Below w.heap.size w w' := by
  refine (Fields_any s w hs).mono ?_
  rintro e w' ⟨v, ys, rfl, hys, hown, hb⟩
  obtain rfl : ys = zs := lists_inj (hys.trans hz)
  exact ⟨v, rfl, Strs.of_own hown, own_nil hown, hb⟩
theorem lists_made (l : List (List UInt8)) : ∃ zs, lists zs = l := ⟨l.map fun x => ⟨x.toArray⟩, by
  simp only [lists, List.map_map]
  conv => rhs; rw [← List.map_id l]
  exact List.map_congr_left fun x _ => rfl⟩

theorem lawWhite_yes (c : UInt8) (h : whiteB c = true) (w : World) : Calls Try.prog 14 #[.int .u8 c.toNat] w fun e w' => e = .returned (.bool true) ∧ w = w' := by
  have := lawWhite_any c w; rwa [h] at this
theorem lawWhite_no (c : UInt8) (h : whiteB c = false) (w : World) : Calls Try.prog 14 #[.int .u8 c.toNat] w fun e w' => e = .returned (.bool false) ∧ w = w' := by
  have := lawWhite_any c w; rwa [h] at this

set_option maxRecDepth 100000 in
set_option maxHeartbeats 1000000 in
theorem words_any (s t : ByteArray) (w : World) :
    Calls Try.prog 5 #[.string s, .string t] w fun e w' => e = .returned (.bool true) ∧ Below w.heap.size w w' := by
  by_cases hbig : 300 < s.size ∨ 300 < t.size
  · have h1 : (300 : Int) < s.size ∨ (300 : Int) < t.size := by omega
    go_enter Try.func5, Try.ntmps5
    go_wp2_with (go_at_call 7; refine (small_any _).mono ?_; rintro e w1 ⟨rfl, b1⟩)
    all_goals (try go_ret; try exact ⟨rfl, b1⟩)
    all_goals omega
  have hs1 : (s.size : Int) ≤ 300 := by omega
  have ht1 : (t.size : Int) ≤ 300 := by omega
  have hs2 : s.size ≤ 1000000 := by omega
  have ht2 : t.size ≤ 1000000 := by omega
  clear hbig
  go_enter Try.func5, Try.ntmps5
  go_wp2_with (go_at_call 7; refine (small_any _).mono ?_)
  rintro e w1 ⟨rfl, b1⟩
  go_wp2_with (go_at_call 13; refine (Fields_any s _ hs2).mono ?_)
  rintro e w2 ⟨v2, ys, rfl, hys, hown, b2⟩
  obtain ⟨x2, cap2, rfl, hc2⟩ := Strs.of_own hown
  have HN2 := Lib.hid (own_nil hown)
  have l1 := b1.size
  have hB2 := b1.trans (b2.mono l1)
  have hC2 := Lib.hid hc2
  clear hc2 b1 b2 l1 hown
  have hfa := words_each whiteB _ s.data.toList (Nat.le_refl _)
  have hfl := words_flat whiteB _ s.data.toList (Nat.le_refl _)
  rw [← hys] at hfa hfl
  have hsl : s.data.toList.length = s.size := rfl
  have hyl : ys.length ≤ 300 := by
    have h1 := hfa.1
    have h2 : (lists ys).length = ys.length := by simp [lists]
    omega
  have hyt : ∀ i, i < ys.length → (nth ys i).size ≤ 300 ∧ (nth ys i).data.toList ≠ [] := fun i hi => by
    have hm : (nth ys i).data.toList ∈ lists ys := by
      rw [nth_lt _ _ hi]; exact List.mem_map.2 ⟨_, List.getElem_mem _, rfl⟩
    obtain ⟨h1, _, h2⟩ := hfa.2 _ hm
    have h4 : (nth ys i).data.toList.length = (nth ys i).size := rfl
    exact ⟨by omega, h1⟩
  have HY := Lib.hid hyt
  have HS := Lib.hid hys
  have HFL : Hid ((lists ys).flatten = nw s.data.toList) := hfl
  clear hyt hfa hys hfl hsl
  go_wp2
  go_loopw [7, 8] (fun kv iv wr => ∃ k i : Nat, k ≤ s.size ∧ i ≤ ys.length ∧ kv = .int .i64 k ∧ iv = .int .i64 i ∧ Hid (nw (s.data.toList.drop k) = (lists (ys.drop i)).flatten) ∧ ∃ n, wr = w2.drewN n) (fun _ iv _ => ys.length - (intOf iv).toNat)
  case atStart => exact ⟨0, 0, Nat.zero_le _, Nat.zero_le _, rfl, rfl, HFL.out.symm, 0, rfl⟩
  case round =>
    obtain ⟨k, i, hk, hi, rfl, rfl, hnw, n, rfl⟩ := hrel
    by_cases hlt : i < ys.length
    · obtain ⟨b, off, hb, rfl, hcb⟩ := hC2.out i hlt
      obtain ⟨hz, hne⟩ := HY.out i hlt
      have hdrop : ys.drop i = nth ys i :: ys.drop (i + 1) := by rw [List.drop_eq_getElem_cons hlt, nth_lt _ _ hlt]
      obtain ⟨y, hy⟩ : ∃ y, nth ys i = y := ⟨_, rfl⟩
      rw [hy] at hcb hz hne hdrop
      have hye : y.toList.isEmpty = false := by rw [Lib.toList_data]; simpa using hne
      have hnw2 : Hid (nw (s.data.toList.drop k) = y.data.toList.drop 0 ++ (lists (ys.drop (i + 1))).flatten) := by
        show _ = _; rw [hnw.out, hdrop]; simp [lists]
      clear hne hdrop hy hnw
      go_wp2
      go_loopw [7, 9] (fun kv jv w' => ∃ (k j : Nat), k ≤ s.size ∧ j ≤ y.size ∧ kv = .int .i64 k ∧ jv = .int .i64 j ∧ Hid (nw (s.data.toList.drop k) = y.data.toList.drop j ++ (lists (ys.drop (i + 1))).flatten) ∧ ∃ n, w' = w2.drewN n) (fun _ jv _ => y.size - (intOf jv).toNat)
      case atStart => exact ⟨k, 0, hk, Nat.zero_le _, rfl, rfl, hnw2, n, rfl⟩
      case round =>
        clear hnw2 hk
        obtain ⟨k, j, hk, hj, rfl, rfl, hnw, n, rfl⟩ := hrel
        by_cases hjl : j < y.size
        · go_wp2
          go_loopw [7] (fun kv w' => ∃ (k : Nat), k ≤ s.size ∧ kv = .int .i64 k ∧ Hid (nw (s.data.toList.drop k) = y.data.toList.drop j ++ (lists (ys.drop (i + 1))).flatten) ∧ w' = w2.drewN n) (fun kv _ => s.size - (intOf kv).toNat)
          case atStart => exact ⟨k, hk, rfl, hnw, rfl⟩
          case round =>
            clear hnw hk
            obtain ⟨k, hk, rfl, hnw, rfl⟩ := hrel
            have hydrop : y.data.toList.drop j = y[j] :: y.data.toList.drop (j + 1) := by
              rw [List.drop_eq_getElem_cons (show j < y.data.toList.length from hjl), ← getD_lt _ _ (show j < y.data.toList.length from hjl), getD_data y j hjl]
            by_cases hkl : k < s.size
            · have hsg := getD_data s k hkl
              by_cases hw : whiteB s[k] = true
              · have hst := nw_step_white s.data.toList k hkl (by rw [hsg]; exact hw)
                have HW := Lib.hid (fun w => lawWhite_yes s[k] hw w)
                have hrel2 : Hid (nw (s.data.toList.drop (k + 1)) = y.data.toList.drop j ++ (lists (ys.drop (i + 1))).flatten) := hst.trans hnw.out
                clear hst hsg hw hydrop
                go_wp2_with (go_at_call 14; refine (HW.out _).mono ?_; rintro e w4 ⟨rfl, rfl⟩)
                go_roundw
                case rel => exact ⟨k + 1, by omega, by go_num, hrel2, trivial⟩
                case measure => simp only [intOf]; omega
              · have hw0 : whiteB s[k] = false := by rw [Bool.eq_false_iff]; exact hw
                have hst := nw_step_other s.data.toList k hkl (by rw [hsg]; exact hw0)
                have hst2 := hst.symm.trans (hnw.out.trans (by rw [hydrop, List.cons_append]))
                rw [List.cons.injEq, hsg] at hst2
                obtain ⟨heq, hrest⟩ := hst2
                have HW := Lib.hid (fun w => lawWhite_no s[k] hw0 w)
                have hq : ((s[k].toNat : Int) != (y[j].toNat : Int)) = false := by rw [heq]; simp
                have hrel2 : Hid (nw (s.data.toList.drop (k + 1)) = y.data.toList.drop (j + 1) ++ (lists (ys.drop (i + 1))).flatten) := hrest
                have hkq : ((k : Int) == (s.size : Int)) = false := by rw [beq_eq_false_iff_ne]; omega
                clear hst hsg hw hw0 heq hrest hydrop
                go_wp2_with (go_at_call 14; refine (HW.out _).mono ?_; rintro e w4 ⟨rfl, rfl⟩)
                go_quiet (fail)
                go_wp2
                go_roundw
                case rel => exact ⟨k + 1, j + 1, by omega, by omega, by go_num, by go_num, hrel2, _, rfl⟩
                case measure => simp only [intOf]; omega
            · exfalso
              have h1 : s.data.toList.drop k = [] := List.drop_eq_nil_of_le (show s.size ≤ k by omega)
              have h2 := hnw.out
              rw [h1, hydrop] at h2
              simp [nw] at h2
        · have hrel2 : Hid (nw (s.data.toList.drop k) = (lists (ys.drop (i + 1))).flatten) := by
            show _ = _
            rw [hnw.out, show y.data.toList.drop j = [] from List.drop_eq_nil_of_le (show y.size ≤ j by omega), List.nil_append]
          clear hnw
          go_wp2
          go_roundw
          case rel => exact ⟨k, i + 1, hk, by omega, rfl, by go_num, hrel2, n, rfl⟩
          case measure => simp only [intOf]; omega
    · have hrel2 : Hid (nw (s.data.toList.drop k) = []) := by
        show _ = _
        rw [hnw.out, show ys.drop i = [] from List.drop_eq_nil_of_le (by omega)]; rfl
      clear hnw HFL
      go_wp2
      go_loopw [7] (fun kv w' => ∃ (k : Nat), k ≤ s.size ∧ kv = .int .i64 k ∧ Hid (nw (s.data.toList.drop k) = []) ∧ w' = w2.drewN n) (fun kv _ => s.size - (intOf kv).toNat)
      case atStart => exact ⟨k, hk, rfl, hrel2, rfl⟩
      case round =>
        clear hrel2 hk
        obtain ⟨k, hk, rfl, hnw, rfl⟩ := hrel
        by_cases hkl : k < s.size
        · have hsg := getD_data s k hkl
          by_cases hw : whiteB s[k] = true
          · have hst := nw_step_white s.data.toList k hkl (by rw [hsg]; exact hw)
            have HW := Lib.hid (fun w => lawWhite_yes s[k] hw w)
            have hrel2 : Hid (nw (s.data.toList.drop (k + 1)) = []) := hst.trans hnw.out
            clear hst hsg hw
            go_wp2_with (go_at_call 14; refine (HW.out _).mono ?_; rintro e w4 ⟨rfl, rfl⟩)
            go_roundw
            case rel => exact ⟨k + 1, by omega, by go_num, hrel2, trivial⟩
            case measure => simp only [intOf]; omega
          · exfalso
            have hw0 : whiteB s[k] = false := by rw [Bool.eq_false_iff]; exact hw
            have hst := nw_step_other s.data.toList k hkl (by rw [hsg]; exact hw0)
            rw [hnw.out] at hst; cases hst
        · have hke : k = s.size := by omega
          have hB3 : Below w.heap.size w (w2.drewN n) := below_drewN hB2 n
          clear hnw hk hkl
          subst hke
          obtain ⟨v2, hv2⟩ : ∃ v, v = Value.slice x2 ys.length cap2 := ⟨_, rfl⟩
          have hStr : ∀ w', Below w2.heap.size w2 w' → Strs w' w'.heap.size v2 ys := fun w' hb => by
            rw [hv2]; exact ((show Strs w2 w2.heap.size _ ys from ⟨x2, cap2, rfl, hC2.out⟩).below hb).mono hb.size
          have hS : ∀ w' u, Strs w' w'.heap.size u ys → Below w2.heap.size w2 w' → Calls Try.prog 10 #[u, v2] w' fun e w'' => e = .returned (.bool true) ∧ Below w'.heap.size w' w'' := fun w' u hu hb => by
            have := Strings_any u v2 ys ys w' (by omega) hu (hStr w' hb)
            rwa [decide_eq_true rfl] at this
          obtain ⟨X, hX⟩ : ∃ X : ByteArray, X = ⟨(trimP whiteB s.data.toList).toArray⟩ := ⟨_, rfl⟩
          have hXd : X.data.toList = trimP whiteB s.data.toList := by rw [hX]
          have hXz : X.size ≤ 300 := by
            have h1 : X.size = (trimP whiteB s.data.toList).length := by rw [← hXd]; rfl
            have h2 : (trimP whiteB s.data.toList).length ≤ s.data.toList.length := by
              unfold trimP
              have a1 := length_dropWhile_le whiteB s.data.toList
              have a2 := length_dropWhile_le whiteB (s.data.toList.dropWhile whiteB).reverse
              rw [List.length_reverse] at a2 ⊢
              omega
            have h3 : s.data.toList.length = s.size := rfl
            omega
          have hTr : ∀ w, Calls Try.prog 15 #[.string s] w fun e w' => e = .returned (.string X) ∧ w = w' := fun w => by rw [hX]; exact Trim_any s w hs2
          have hTr2 : ∀ w, Calls Try.prog 15 #[.string X] w fun e w' => e = .returned (.string X) ∧ w = w' := fun w => by
            have := Trim_any X w (by omega)
            rw [hXd, trim_trim] at this
            rwa [← hX] at this
          have hFx : ∀ w', Calls Try.prog 13 #[.string X] w' fun e w'' => ∃ v, e = .returned v ∧ Strs w'' w''.heap.size v ys ∧ Below w'.heap.size w' w'' := fun w' =>
            Fields_reads X ys w' (by omega) (by rw [hXd, words_trim, HS.out])
          have hends := fun (h : X.data.toList ≠ []) => trim_ends whiteB s.data.toList X.data.toList hXd.symm h
          obtain ⟨Q, hQ⟩ : ∃ Q : ByteArray, Q = ⟨(sqP (wordsP whiteB s.data.toList)).toArray⟩ := ⟨_, rfl⟩
          have hQd : Q.data.toList = sqP (wordsP whiteB s.data.toList) := by rw [hQ]
          have hea := words_each whiteB _ s.data.toList (Nat.le_refl _)
          have hsl : s.data.toList.length = s.size := rfl
          have hQw : wordsP whiteB Q.data.toList = wordsP whiteB s.data.toList := by
            rw [hQd]; exact words_sq _ _ (Nat.le_refl _) fun x hx => ⟨(hea.2 x hx).1, (hea.2 x hx).2.1⟩
          have hQz : Q.size ≤ 1000000 := by
            have h1 : Q.size = (sqP (wordsP whiteB s.data.toList)).length := by rw [← hQd]; rfl
            have h2 := sqP_len 300 _ _ (Nat.le_refl _) (fun x hx => by have := (hea.2 x hx).2.2; omega : ∀ x ∈ wordsP whiteB s.data.toList, x.length ≤ 300)
            have h3 : (wordsP whiteB s.data.toList).length * (300 + 1) ≤ 300 * 301 := Nat.mul_le_mul (by have := hea.1; omega) (by omega)
            omega
          have hQ1 : ∀ w', Calls Try.prog 16 #[.string s] w' fun e w'' => e = .returned (.string Q) ∧ Below w'.heap.size w' w'' := fun w' => by rw [hQ]; exact Squeeze_any s hs2 w'
          have hQ2 : ∀ w', Calls Try.prog 16 #[.string Q] w' fun e w'' => e = .returned (.string Q) ∧ Below w'.heap.size w' w'' := fun w' => by
            have := Squeeze_any Q hQz w'
            rw [hQw] at this
            rwa [← hQ] at this
          have hFq : ∀ w', Calls Try.prog 13 #[.string Q] w' fun e w'' => ∃ v, e = .returned v ∧ Strs w'' w''.heap.size v ys ∧ Below w'.heap.size w' w'' := fun w' =>
            Fields_reads Q ys w' hQz (by rw [hQw, HS.out])
          obtain ⟨zs, hzs⟩ := lists_made (wordsP whiteB t.data.toList)
          have hzl : zs.length ≤ 300 := by
            have h1 := (words_each whiteB _ t.data.toList (Nat.le_refl _)).1
            rw [← hzs] at h1
            have h2 : (lists zs).length = zs.length := by simp [lists]
            have h3 : t.data.toList.length = t.size := rfl
            omega
          have hFt : ∀ w', Calls Try.prog 13 #[.string t] w' fun e w'' => ∃ v, e = .returned v ∧ Strs w'' w''.heap.size v zs ∧ (∀ k c, v = .slice none k c → c = 0) ∧ Below w'.heap.size w' w'' := fun w' =>
            Fields_reads2 t zs w' ht2 hzs.symm
          have HFt := Lib.hid hFt
          clear hFt
          have hS11 : ∀ w' u u', Strs w' w'.heap.size u (ys ++ zs) → Strs w' w'.heap.size u' (ys ++ zs) → Calls Try.prog 10 #[u, u'] w' fun e w'' => e = .returned (.bool true) ∧ Below w'.heap.size w' w'' := fun w' u u' hu hu' => by
            have := Strings_any u u' (ys ++ zs) (ys ++ zs) w' (by simp; omega) hu hu'
            rwa [decide_eq_true rfl] at this
          have HS11 := Lib.hid hS11
          clear hS11
          have hFb : ∀ w', Calls Try.prog 13 #[.string (s ++ ⟨#[10]⟩ ++ t)] w' fun e w'' => ∃ v, e = .returned v ∧ Strs w'' w''.heap.size v (ys ++ zs) ∧ Below w'.heap.size w' w'' := fun w' => by
            refine Fields_reads _ (ys ++ zs) w' ?_ ?_
            · rw [ByteArray.size_append, ByteArray.size_append]; show s.size + 1 + t.size ≤ _; omega
            · rw [ByteArray.data_append, ByteArray.data_append, Array.toList_append, Array.toList_append, List.append_assoc]
              show wordsP whiteB (s.data.toList ++ 10 :: t.data.toList) = _
              rw [words_split whiteB _ _ 10 _ (Nat.le_refl _) (by decide), ← HS.out, ← hzs]; simp [lists]
          have HS10 := Lib.hid hS
          have HStr := Lib.hid hStr
          have HTr := Lib.hid hTr
          have HTr2 := Lib.hid hTr2
          have HFx := Lib.hid hFx
          have HE := Lib.hid hends
          have HQ1 := Lib.hid hQ1
          have HQ2 := Lib.hid hQ2
          have HFq := Lib.hid hFq
          have HFb := Lib.hid hFb
          have HZs := Lib.hid hzs
          have hBw : Below w2.heap.size w2 (w2.drewN n) := below_drewN (Below.refl _ _) n
          clear hS hStr hTr hTr2 hFx hends hQ1 hQ2 hFq hFb hzs hX hXd hQ hQd hQw hea hsl
          go_wp2_with (go_at_call 15; refine (HTr.out _).mono ?_)
          rintro e w3 ⟨rfl, rfl⟩
          by_cases hxe : X.data.toList = []
          · have he : (!X.toList.isEmpty) = false := by rw [Lib.toList_data, hxe]; rfl
            clear hxe
            go_wp2_with (go_at_call 15; refine (HTr2.out _).mono ?_)
            rintro e w3 ⟨rfl, rfl⟩
            go_wp2_with (go_at_call 13; refine (HFx.out _).mono ?_)
            rintro e w5 ⟨v5, rfl, hs5, b5⟩
            have hB5 := hBw.trans (b5.mono hBw.size)
            go_wp2_with (go_at_call 10; rw [← hv2]; refine (HS10.out _ _ hs5 hB5).mono ?_)
            rintro e w6 ⟨rfl, b6⟩
            have hB6 := hB5.trans (b6.mono hB5.size)
            go_wp2_with (go_at_call 16; refine (HQ1.out _).mono ?_)
            rintro e w7 ⟨rfl, b7⟩
            have hB7 := hB6.trans (b7.mono hB6.size)
            go_wp2_with (go_at_call 13; refine (HFb.out _).mono ?_)
            rintro e w8 ⟨v8, rfl, hs8, b8⟩
            have hB8 := hB7.trans (b8.mono hB7.size)
            go_wp2_with (go_at_call 16; refine (HQ2.out _).mono ?_)
            rintro e w9 ⟨rfl, b9⟩
            have hB9 := hB8.trans (b9.mono hB8.size)
            go_wp2_with (go_at_call 13; refine (HFq.out _).mono ?_)
            rintro e w10 ⟨v10, rfl, hs10, b10⟩
            have hB10 := hB9.trans (b10.mono hB9.size)
            go_wp2_with (go_at_call 10; rw [← hv2]; refine (HS10.out _ _ hs10 hB10).mono ?_)
            rintro e w11 ⟨rfl, b11⟩
            have hB11 := hB10.trans (b11.mono hB10.size)
            have z9 := b9.size
            have z10 := b10.size
            have h8 : Below w8.heap.size w8 w11 := (b9.trans (b10.mono z9)).trans (b11.mono (by omega))
            have hr11 : Strs w11 w11.heap.size v8 (ys ++ zs) := (hs8.below h8).mono h8.size
            have hu11 : Strs w11 w11.heap.size v2 ys := HStr.out w11 hB11
            clear b5 b6 b7 b8 b9 b10 b11 hs5 hs8 hs10 hB5 hB6 hB7 hB8 hB9 hB10 hB3 hBw HFx HTr HTr2 HQ1 HQ2 HFq HFb HS10 h8 z9 z10
            have hB11w : Below w11.heap.size w11 (w11.alloc (.cells #[] 9)) := (Below.refl _ _).alloc (Nat.le_refl _) _
            have hown0 : (w11.alloc (.cells #[] 9)).ownsRow w11.heap.size 9 1 (.slice (some ⟨w11.heap.size, 0, none⟩) 0 0) 0 (strVals []) := World.ownsRow_made w11 #[] 0 (Nat.le_refl _) (by unfold maxLen; omega) rfl
            go_wp2_with (at_builtin; refine app_strs (by rfl) _ _ rfl w11.heap.size _ [] rfl hown0 w11.heap.size _ ys rfl (by rw [← hv2]; exact hu11.below hB11w) HN2.out (by simp; omega) (by simp) ?_; intro v12 w12 hown12 hg12)
            have hb12 : Below w11.heap.size w11 w12 := hB11w.grown hg12 (by simp) (fun k hk => (hown0.lt k hk).1)
            have HOwn0 := Lib.hid hown0
            clear hown0 hg12 hB11w
            rw [List.nil_append] at hown12
            go_at_call 13
            refine (HFt.out _).mono ?_
            rintro e w13 ⟨v13, rfl, hs13, hn13, b13⟩
            have hown13 := own_below hown12 b13
            have z12 := hb12.size
            have hb13 : Below w11.heap.size w11 w13 := hb12.trans (b13.mono z12)
            have z13 := hb13.size
            have HN13 := Lib.hid hn13
            clear hn13 hown12
            go_wp2_with (at_builtin; refine app_strs (by rfl) _ _ rfl w11.heap.size _ ys rfl hown13 w13.heap.size _ zs rfl hs13 HN13.out (by omega) z13 ?_; intro v14 w14 hown14 hg14)
            have hb14 : Below w11.heap.size w11 w14 := hb13.grown hg14 z13 (fun k hk => (hown13.lt k hk).1)
            have hr14 : Strs w14 w14.heap.size v8 (ys ++ zs) := (hr11.below hb14).mono hb14.size
            have hs14 : Strs w14 w14.heap.size v14 (ys ++ zs) := Strs.of_own hown14
            clear hg14 hown13 hown14
            go_at_call 10
            refine (HS11.out _ _ _ hr14 hs14).mono ?_
            rintro e w15 ⟨rfl, b15⟩
            go_wp2
            have z2 := hB2.size
            have z11 := hB11.size
            have z14 := hb14.size
            go_ret
            exact ⟨rfl, ((hB2.trans (hB11.mono z2)).trans (hb14.mono (by omega))).trans (b15.mono (by omega))⟩
          · have he : (!X.toList.isEmpty) = true := by rw [Lib.toList_data]; simpa using hxe
            obtain ⟨e1, e2⟩ := HE.out hxe
            have hX0 : 0 < X.size := List.length_pos_iff.2 hxe
            obtain ⟨m, hm⟩ : ∃ m, X.size = m + 1 := ⟨X.size - 1, by omega⟩
            have hml : m < X.size := by omega
            have hmi : (m : Int) < X.size := by omega
            have h0i : (0 : Int) < X.size := by omega
            have g0 : X.data.toList.head hxe = X[0] := by
              rw [List.head_eq_getElem, ← getD_data X 0 hX0, getD_lt _ _ (show 0 < X.data.toList.length from hX0)]
            have g1 : X.data.toList.getLast hxe = X[m] := by
              rw [List.getLast_eq_getElem, ← getD_data X m hml, getD_lt _ _ (show m < X.data.toList.length from hml)]
              congr 1
              show X.size - 1 = m; omega
            have hw : IntKind.i64.wrap ((X.size : Int) - 1) = m := by rw [Go.IntWalk.i64_in _ (by omega)]; omega
            have hw2 : (X.size : Int) - 1 = m := by omega
            have HW0 := Lib.hid (fun w => lawWhite_no X[0] (by rw [← g0]; exact e1) w)
            have HWm := Lib.hid (fun w => lawWhite_no X[m] (by rw [← g1]; exact e2) w)
            clear e1 e2 hm g0 g1 hxe
            go_wp2_with (go_at_call 14; refine (HW0.out _).mono ?_)
            rintro e w3 ⟨rfl, rfl⟩
            go_wp2_with (go_at_call 14; refine (HWm.out _).mono ?_)
            rintro e w3 ⟨rfl, rfl⟩
            go_wp2_with (go_at_call 15; refine (HTr2.out _).mono ?_)
            rintro e w3 ⟨rfl, rfl⟩
            go_wp2_with (go_at_call 13; refine (HFx.out _).mono ?_)
            rintro e w5 ⟨v5, rfl, hs5, b5⟩
            have hB5 := hBw.trans (b5.mono hBw.size)
            go_wp2_with (go_at_call 10; rw [← hv2]; refine (HS10.out _ _ hs5 hB5).mono ?_)
            rintro e w6 ⟨rfl, b6⟩
            have hB6 := hB5.trans (b6.mono hB5.size)
            go_wp2_with (go_at_call 16; refine (HQ1.out _).mono ?_)
            rintro e w7 ⟨rfl, b7⟩
            have hB7 := hB6.trans (b7.mono hB6.size)
            go_wp2_with (go_at_call 13; refine (HFb.out _).mono ?_)
            rintro e w8 ⟨v8, rfl, hs8, b8⟩
            have hB8 := hB7.trans (b8.mono hB7.size)
            go_wp2_with (go_at_call 16; refine (HQ2.out _).mono ?_)
            rintro e w9 ⟨rfl, b9⟩
            have hB9 := hB8.trans (b9.mono hB8.size)
            go_wp2_with (go_at_call 13; refine (HFq.out _).mono ?_)
            rintro e w10 ⟨v10, rfl, hs10, b10⟩
            have hB10 := hB9.trans (b10.mono hB9.size)
            go_wp2_with (go_at_call 10; rw [← hv2]; refine (HS10.out _ _ hs10 hB10).mono ?_)
            rintro e w11 ⟨rfl, b11⟩
            have hB11 := hB10.trans (b11.mono hB10.size)
            have z9 := b9.size
            have z10 := b10.size
            have h8 : Below w8.heap.size w8 w11 := (b9.trans (b10.mono z9)).trans (b11.mono (by omega))
            have hr11 : Strs w11 w11.heap.size v8 (ys ++ zs) := (hs8.below h8).mono h8.size
            have hu11 : Strs w11 w11.heap.size v2 ys := HStr.out w11 hB11
            clear b5 b6 b7 b8 b9 b10 b11 hs5 hs8 hs10 hB5 hB6 hB7 hB8 hB9 hB10 hB3 hBw HFx HTr HTr2 HQ1 HQ2 HFq HFb HS10 h8 z9 z10
            have hB11w : Below w11.heap.size w11 (w11.alloc (.cells #[] 9)) := (Below.refl _ _).alloc (Nat.le_refl _) _
            have hown0 : (w11.alloc (.cells #[] 9)).ownsRow w11.heap.size 9 1 (.slice (some ⟨w11.heap.size, 0, none⟩) 0 0) 0 (strVals []) := World.ownsRow_made w11 #[] 0 (Nat.le_refl _) (by unfold maxLen; omega) rfl
            go_wp2_with (at_builtin; refine app_strs (by rfl) _ _ rfl w11.heap.size _ [] rfl hown0 w11.heap.size _ ys rfl (by rw [← hv2]; exact hu11.below hB11w) HN2.out (by simp; omega) (by simp) ?_; intro v12 w12 hown12 hg12)
            have hb12 : Below w11.heap.size w11 w12 := hB11w.grown hg12 (by simp) (fun k hk => (hown0.lt k hk).1)
            have HOwn0 := Lib.hid hown0
            clear hown0 hg12 hB11w
            rw [List.nil_append] at hown12
            go_at_call 13
            refine (HFt.out _).mono ?_
            rintro e w13 ⟨v13, rfl, hs13, hn13, b13⟩
            have hown13 := own_below hown12 b13
            have z12 := hb12.size
            have hb13 : Below w11.heap.size w11 w13 := hb12.trans (b13.mono z12)
            have z13 := hb13.size
            have HN13 := Lib.hid hn13
            clear hn13 hown12
            go_wp2_with (at_builtin; refine app_strs (by rfl) _ _ rfl w11.heap.size _ ys rfl hown13 w13.heap.size _ zs rfl hs13 HN13.out (by omega) z13 ?_; intro v14 w14 hown14 hg14)
            have hb14 : Below w11.heap.size w11 w14 := hb13.grown hg14 z13 (fun k hk => (hown13.lt k hk).1)
            have hr14 : Strs w14 w14.heap.size v8 (ys ++ zs) := (hr11.below hb14).mono hb14.size
            have hs14 : Strs w14 w14.heap.size v14 (ys ++ zs) := Strs.of_own hown14
            clear hg14 hown13 hown14
            go_at_call 10
            refine (HS11.out _ _ _ hr14 hs14).mono ?_
            rintro e w15 ⟨rfl, b15⟩
            go_wp2
            have z2 := hB2.size
            have z11 := hB11.size
            have z14 := hb14.size
            go_ret
            exact ⟨rfl, ((hB2.trans (hB11.mono z2)).trans (hb14.mono (by omega))).trans (b15.mono (by omega))⟩
end Go.Proofs.Ythnpedkinelemaa
