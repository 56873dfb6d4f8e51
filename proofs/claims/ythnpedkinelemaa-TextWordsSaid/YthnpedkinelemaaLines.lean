/- The lines of a string. -/
import Derived.Maps.AppendAt
import Derived.Test.YthnpedkinelemaaFields
import Derived.Test.YthnpedkinelemaaShelf
import Derived.Test.YthnpedkinelemaaLinesPlain
namespace Go.Proofs.Ythnpedkinelemaa
open Go.RowKit Go.Shelf

theorem cut_none (s : ByteArray) (w : World) (hi : Lib.indexByte s.data.toList 10 = -1) :
    Calls Try.prog 31 #[.string s, .string ⟨#[10]⟩] w fun e w' => e = .returned (.tuple #[.string s, .string ⟨#[]⟩, .bool false]) ∧ w = w' := by
  have hI := Try.stringslite_Index_one s 10 w
  rw [hi] at hI
  go_enter Try.func31, Try.ntmps31
  go_wp2_with (go_at_call 35; refine hI.mono ?_; rintro e w1 ⟨rfl, rfl⟩)
  go_ret3
  exact ⟨rfl, rfl⟩

theorem cut_some (s : ByteArray) (o : Nat) (w : World) (hs : s.size ≤ 1000000) (ho : o < s.size) (hi : Lib.indexByte s.data.toList 10 = o) :
    Calls Try.prog 31 #[.string s, .string ⟨#[10]⟩] w fun e w' => e = .returned (.tuple #[.string (s.extract 0 o), .string (s.extract (o + 1) s.size), .bool true]) ∧ ∃ n, w' = w.drewN n := by
  have hI := Try.stringslite_Index_one s 10 w
  rw [hi] at hI
  go_enter Try.func31, Try.ntmps31
  go_wp2_with (go_at_call 35; refine hI.mono ?_; rintro e w1 ⟨rfl, rfl⟩)
  go_quiet (fail)
  go_wp2
  go_ret3
  exact ⟨rfl, nq, rfl⟩

set_option maxRecDepth 100000 in
set_option maxHeartbeats 2000000 in
theorem Cut_none (s : ByteArray) (w : World) (hi : Lib.indexByte s.data.toList 10 = -1) :
    Calls Try.prog 20 #[.string s, .string ⟨#[10]⟩] w fun e w' => e = .returned (.tuple #[.string s, .string ⟨#[]⟩, .bool false]) ∧ w = w' := by
  go_enter Try.func20, Try.ntmps20
  go_wp2_with (go_at_call 31; refine (cut_none s w hi).mono ?_; rintro e w1 ⟨rfl, rfl⟩)
  go_ret3
  exact ⟨rfl, rfl⟩

set_option maxRecDepth 100000 in
set_option maxHeartbeats 2000000 in
theorem Cut_some (s : ByteArray) (o : Nat) (w : World) (hs : s.size ≤ 1000000) (ho : o < s.size) (hi : Lib.indexByte s.data.toList 10 = o) :
    Calls Try.prog 20 #[.string s, .string ⟨#[10]⟩] w fun e w' => e = .returned (.tuple #[.string (s.extract 0 o), .string (s.extract (o + 1) s.size), .bool true]) ∧ ∃ n, w' = w.drewN n := by
  go_enter Try.func20, Try.ntmps20
  go_wp2_with (go_at_call 31; refine (cut_some s o w hs ho hi).mono ?_; rintro e w1 ⟨rfl, n1, rfl⟩)
  go_ret3
  exact ⟨rfl, n1, rfl⟩

theorem indexByte_cases (s : ByteArray) : Lib.indexByte s.data.toList 10 = -1 ∨ ∃ o : Nat, o < s.size ∧ Lib.indexByte s.data.toList 10 = o := by
  have h := Lib.indexByte_ge s.data.toList 10
  rcases Int.lt_or_le (Lib.indexByte s.data.toList 10) 0 with h1 | h1
  · left; omega
  · right
    obtain ⟨o, e⟩ := Int.eq_ofNat_of_zero_le h1
    exact ⟨o, (lines_some e).1, e⟩

theorem ownsRow_drewN {w : World} {base : Nat} {e : TypeId} {size : Nat} {v : Value} {n : Nat} {xs : List Value} (h : w.ownsRow base e size v n xs) (k : Nat) : (w.drewN k).ownsRow base e size v n xs := h

theorem Trim_cr (s : ByteArray) (w : World) (hs : s.size ≤ 1000000) :
    Calls Try.prog 21 #[.string s, .string ⟨#[13]⟩] w fun e w' => e = .returned (.string ⟨(trimCR s.data.toList).toArray⟩) ∧ w = w' :=
  (Try.strings_TrimSuffix s ⟨#[13]⟩ w (by omega)).mono fun _ _ h => ⟨h.1, h.2.symm⟩

set_option maxRecDepth 100000 in
set_option maxHeartbeats 2000000 in
theorem Lines_any (s : ByteArray) (w : World) (hs : s.size ≤ 1000000) :
    Calls Try.prog 8 #[.string s] w fun e w' => ∃ (v : Value) (ys : List ByteArray), e = .returned v ∧ lists ys = linesP s.data.toList ∧ w'.ownsRow w.heap.size 9 1 v ys.length (strVals ys) ∧ Below w.heap.size w w' := by
  obtain ⟨i0, hi, hz0, hz1, hz2⟩ := info_parts infoStr
  go_enter Try.func8, Try.ntmps8
  go_wp2
  go_loopw [0, 3] (fun c v wr => ∃ (cur : ByteArray) (pre : List ByteArray), c = .string cur ∧ cur.size + pre.length ≤ s.size ∧ Hid (linesP s.data.toList = lists pre ++ linesP cur.data.toList) ∧ wr.ownsRow w.heap.size 9 1 v pre.length (strVals pre) ∧ Below w.heap.size w wr) (fun c _ _ => match c with | .string b => b.size | _ => 0)
  case atStart => exact ⟨s, [], rfl, by simp, rfl, World.ownsRow_nil _ _ _ _, Below.refl _ _⟩
  case round =>
    obtain ⟨cur, pre, rfl, hcs, heq, hrow, hB⟩ := hrel
    have hWs := hB.size
    by_cases h0 : cur = ⟨#[]⟩
    · subst h0
      go_wp2
      go_ret
      exact ⟨u3, rfl, pre, by rw [heq.out]; simp [linesP_nil, lists], hrow, hB⟩
    · have hne : cur.data.toList ≠ [] := fun e => h0 (string_eq e)
      have hpos : 0 < cur.size := List.length_pos_iff.2 hne
      have hne2 : (!cur.toList.isEmpty) = true := by rw [Lib.toList_data]; simpa using hne
      rcases indexByte_cases cur with hix | ⟨o, ho, hix⟩
      · go_wp2_with (first
          | (go_at_call 20; refine (Cut_none cur _ hix).mono ?_; rintro e w1 ⟨rfl, rfl⟩)
          | (at_builtin; refine wpList_append_own _ rfl _ _ 22 rfl w.heap.size 9 i0 (.string ByteArray.empty) 1 16 Try.underlying22 hi hz0 hz1 hz2 rfl (by decide) _ _ _ rfl (hrow.alloc _) ⟨wr.heap.size, 0, none⟩ 1 1 [.string cur] rfl rfl (cell_one_new _ _ _) (by simp [Value.oneCell']) (by unfold maxLen; omega) (by omega) (by simp; omega) ?_; intro v' w1 hown' hgrow _; obtain ⟨g', cap', rfl⟩ := ownsRow_succ hown'))
        refine ⟨⟨⟨#[]⟩, pre ++ [cur], rfl, by (have : (⟨#[]⟩ : ByteArray).size = 0 := rfl); simp; omega, ?_, by simpa [strVals] using hown', (hB.alloc hWs _).grown hgrow (by simp; omega) (fun k hk => (hrow.lt k hk).1)⟩, hpos⟩
        show _ = _
        rw [heq.out, lines_step_none hne hix]; simp [lists, linesP_nil]
      · go_wp2_with (first
          | (go_at_call 20; refine (Cut_some cur o _ (by omega) ho hix).mono ?_; rintro e w1 ⟨rfl, n1, rfl⟩)
          | (go_at_call 21; refine (Trim_cr _ _ (by rw [ByteArray.size_extract]; omega)).mono ?_; rintro e w1 ⟨rfl, rfl⟩)
          | (at_builtin; refine wpList_append_own _ rfl _ _ 22 rfl w.heap.size 9 i0 (.string ByteArray.empty) 1 16 Try.underlying22 hi hz0 hz1 hz2 rfl (by decide) _ _ _ rfl ((ownsRow_drewN hrow n1).alloc _) ⟨wr.heap.size, 0, none⟩ 1 1 [.string _] rfl rfl (cell_one_new _ _ _) (by simp [Value.oneCell']) (by unfold maxLen; omega) (by omega) (by simp; omega) ?_; intro v' w1 hown' hgrow _; obtain ⟨g', cap', rfl⟩ := ownsRow_succ hown'))
        refine ⟨⟨cur.extract (o + 1) cur.size, pre ++ [⟨(trimCR (cur.data.toList.take o)).toArray⟩], rfl, by simp [ByteArray.size_extract]; omega, ?_, by simpa [strVals] using hown', ((below_drewN hB n1).alloc (by simp; omega) _).grown hgrow (by simp; omega) (fun k hk => (hrow.lt k hk).1)⟩, ?_⟩
        · show _ = _
          rw [heq.out, lines_step_some hix, Lib.extract_data]
          have e1 : (cur.data.toList.drop (o + 1)).take (cur.size - (o + 1)) = cur.data.toList.drop (o + 1) := by
            apply List.take_of_length_le; rw [List.length_drop]; exact Nat.le_refl _
          rw [e1]; simp [lists]
        · show (cur.extract (o + 1) cur.size).size < cur.size
          rw [ByteArray.size_extract]; omega
end Go.Proofs.Ythnpedkinelemaa
