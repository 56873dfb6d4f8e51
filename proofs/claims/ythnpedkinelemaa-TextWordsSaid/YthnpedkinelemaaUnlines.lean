/- Lists of strings: each with a line feed; whether two are alike. -/
import Derived.Test.YthnpedkinelemaaSqueeze
namespace Go.Proofs.Ythnpedkinelemaa
open Go.RowKit Go.Shelf

/-- The j-th of a list of strings. -/
def nth (xs : List ByteArray) (j : Nat) : ByteArray := xs.getD j ⟨#[]⟩
theorem nth_lt (xs : List ByteArray) (j : Nat) (h : j < xs.length) : nth xs j = xs[j] := by
  rw [nth, List.getD_eq_getElem?_getD, List.getElem?_eq_getElem h]; rfl

/-- The slice v reads as the list of strings xs, in blocks below n₀. -/
def Strs (w : World) (n₀ : Nat) (v : Value) (xs : List ByteArray) : Prop :=
  ∃ x cap, v = .slice x xs.length cap ∧ ∀ j, j < xs.length → ∃ b off, b < n₀ ∧ x = some ⟨b, off, none⟩ ∧ w.cell? ⟨b, off + j, none⟩ = some (.string (nth xs j))

theorem Strs.below {w w' : World} {n₀ : Nat} {v : Value} {xs : List ByteArray} (h : Strs w n₀ v xs) (hb : Below n₀ w w') : Strs w' n₀ v xs := by
  obtain ⟨x, cap, rfl, hc⟩ := h
  refine ⟨x, cap, rfl, fun j hj => ?_⟩
  obtain ⟨b, off, hlt, e, hcj⟩ := hc j hj
  exact ⟨b, off, hlt, e, (hb.cell (p := ⟨b, off + j, none⟩) hlt).trans hcj⟩
theorem Strs.mono {w : World} {n₀ n₁ : Nat} {v : Value} {xs : List ByteArray} (h : Strs w n₀ v xs) (hn : n₀ ≤ n₁) : Strs w n₁ v xs := by
  obtain ⟨x, cap, rfl, hc⟩ := h
  refine ⟨x, cap, rfl, fun j hj => ?_⟩
  obtain ⟨b, off, hlt, e, hcj⟩ := hc j hj
  exact ⟨b, off, by omega, e, hcj⟩
theorem Strs.of_own {w : World} {B : Nat} {v : Value} {xs : List ByteArray} (h : w.ownsRow B 9 1 v xs.length (strVals xs)) : Strs w w.heap.size v xs := by
  rcases h.2 with ⟨rfl, h0⟩ | ⟨g, cap, cur, rfl, hB, hg, hcap, hm, hcur, htake⟩
  · exact ⟨none, 0, by rw [h0], fun j hj => by omega⟩
  · refine ⟨_, cap, rfl, fun j hj => ⟨g, 0, (World.ownsRow.lt h g rfl).2, rfl, ?_⟩⟩
    have := World.ownsRow.cells h (g := g) rfl j (.string (nth xs j)) (by
      rw [strVals, List.getElem?_map, List.getElem?_eq_getElem hj, nth_lt _ _ hj]; rfl)
    have hadd : (⟨g, 0, none⟩ : Addr).add j = ⟨g, 0 + j, none⟩ := by unfold Addr.add; split <;> simp_all
    rwa [hadd] at this

/-- Each with a line feed. -/
def unP (xs : List (List UInt8)) : List UInt8 := (xs.map fun x => x ++ [10]).flatten
theorem unP_append (pre : List (List UInt8)) (x : List UInt8) : unP (pre ++ [x]) = unP pre ++ x ++ [10] := by simp [unP]

theorem lists_take (xs : List ByteArray) (k : Nat) (h : k < xs.length) : lists (xs.take (k + 1)) = lists (xs.take k) ++ [(nth xs k).data.toList] := by
  rw [List.take_succ_eq_append_getElem h, nth_lt _ _ h]; simp only [lists, List.map_append, List.map_cons, List.map_nil]

theorem unP_length (xs : List ByteArray) (m : Nat) (h : ∀ j, j < xs.length → (nth xs j).size ≤ m) (k : Nat) (hk : k ≤ xs.length) : (unP (lists (xs.take k))).length ≤ k * (m + 1) := by
  induction k with
  | zero => simp [lists, unP]
  | succ k ih =>
    rw [lists_take _ _ (by omega), unP_append]
    have h1 := ih (by omega)
    have h2 : (nth xs k).data.toList.length ≤ m := h k (by omega)
    simp only [List.length_append, List.length_cons, List.length_nil]
    rw [Nat.succ_mul]; omega

set_option maxRecDepth 100000 in
set_option maxHeartbeats 2000000 in
theorem Unlines_any (v : Value) (xs : List ByteArray) (w : World) (hl : xs.length ≤ 100000) (hz : ∀ j, j < xs.length → (nth xs j).size ≤ 100000) (hv : Strs w w.heap.size v xs) :
    Calls Try.prog 9 #[v] w fun e w' => e = .returned (.string ⟨(unP (lists xs)).toArray⟩) ∧ Below w.heap.size w w' := by
  obtain ⟨x, cap, rfl, hc⟩ := hv
  have hC := Lib.hid hc
  clear hc
  go_enter Try.func9, Try.ntmps9
  go_wp2
  go_loopw [8] (fun i wr => ∃ k : Nat, i = .int .i64 k ∧ k ≤ xs.length ∧ Lib.IsBuilder 39 5 w.heap.size w.heap.size (Lib.byteCells (unP (lists (xs.take k)))) wr ∧ Below w.heap.size w wr) (fun i _ => xs.length - (intOf i).toNat)
  case atStart => exact ⟨0, rfl, Nat.zero_le _, Lib.fresh_isBuilder 39 5 w, (Below.refl _ w).alloc (Nat.le_refl _) _⟩
  case round =>
    obtain ⟨k, rfl, hk, hb, hB⟩ := hrel
    have hWs := hB.size
    by_cases hlt : k < xs.length
    · obtain ⟨b, off, hbk, rfl, hcb⟩ := hC.out k hlt
      have q := (hB.cell (p := ⟨b, off + k, none⟩) hbk).trans hcb
      have hlen := unP_length xs 100000 hz k hk
      have hsz := hz k hlt
      have hlim : k * (100000 + 1) ≤ 100000 * 100001 := Nat.mul_le_mul (by omega) (by omega)
      obtain ⟨acc, hacc⟩ : ∃ acc, unP (lists (xs.take k)) = acc := ⟨_, rfl⟩
      have hnext : unP (lists (xs.take (k + 1))) = acc ++ (nth xs k).data.toList ++ [10] := by rw [lists_take _ _ hlt, unP_append, hacc]
      rw [hacc] at hb hlen
      clear hacc
      have hStr := WriteString_any _ _ _ (nth xs k) _ hb (by rw [Lib.byteCells_length]; omega) hWs
      have hByte : ∀ w1, Lib.BuilderAt 39 5 w.heap.size w.heap.size (.pointer (some ⟨w.heap.size, 0, none⟩)) (Lib.byteCells acc ++ Lib.strCells (nth xs k)) w1 → w.heap.size ≤ w1.heap.size → Calls Try.prog 23 #[.pointer (some ⟨w.heap.size, 0, none⟩), .int .u8 10] w1 _ := fun w1 h1 hs1 =>
        WriteByte_any _ _ _ 10 _ (.inr h1) (by rw [List.length_append, Lib.byteCells_length, Lib.strCells_length]; omega) hs1
      have HZ := Lib.hid hz
      clear hz
      go_wp2_with (first
        | (go_at_call 22; refine hStr.mono ?_; rintro e w1 ⟨rfl, hb1, hbl1, hk1, ho1⟩; have hs1 := Nat.le_trans hWs hbl1.size)
        | (go_at_call 23; refine (hByte _ hb1 hs1).mono ?_; rintro e w2 ⟨rfl, hb2, hbl2, hk2, ho2⟩))
      go_roundw
      case rel =>
        refine ⟨k + 1, by go_num, by omega, ?_, (hB.trans hbl1).trans hbl2⟩
        rw [hnext, Lib.byteCells_append, Lib.byteCells_append]; exact .inr hb2
      case measure => simp [intOf]; omega
    · have hke : k = xs.length := by omega
      have ht : xs.take k = xs := by rw [hke, List.take_length]
      rw [ht] at hb
      go_wp2_with (go_at_call 24; refine (Try.Builder_String_any _ _ _ _ hb hWs).mono ?_; rintro e w1 ⟨rfl, hb1⟩)
      go_ret
      exact ⟨rfl, hB.trans hb1⟩

set_option maxRecDepth 100000 in
set_option maxHeartbeats 2000000 in
theorem Strings_any (v v' : Value) (xs ys : List ByteArray) (w : World) (hl : xs.length ≤ 1000000) (hv : Strs w w.heap.size v xs) (hv' : Strs w w.heap.size v' ys) :
    Calls Try.prog 10 #[v, v'] w fun e w' => e = .returned (.bool (decide (xs = ys))) ∧ Below w.heap.size w w' := by
  obtain ⟨x, cap, rfl, hc⟩ := hv
  obtain ⟨x', cap', rfl, hc'⟩ := hv'
  have hC := Lib.hid hc
  have hC' := Lib.hid hc'
  clear hc hc'
  by_cases heq : xs.length = ys.length
  · have hq : ((xs.length : Int) != (ys.length : Int)) = false := by simp [heq]
    go_enter Try.func10, Try.ntmps10
    go_wp2
    go_loopw [5] (fun i wr => ∃ k : Nat, i = .int .i64 k ∧ k ≤ xs.length ∧ Hid (∀ j, j < k → nth xs j = nth ys j) ∧ Below w.heap.size w wr) (fun i _ => xs.length - (intOf i).toNat)
    case atStart => exact ⟨0, rfl, Nat.zero_le _, fun j hj => by omega, Below.refl _ _⟩
    case round =>
      obtain ⟨k, rfl, hk, hall, hB⟩ := hrel
      by_cases hlt : k < xs.length
      · obtain ⟨b, off, hb, rfl, hcb⟩ := hC.out k hlt
        obtain ⟨b', off', hb', rfl, hcb'⟩ := hC'.out k (by omega)
        have q := (hB.cell (p := ⟨b, off + k, none⟩) hb).trans hcb
        have q' := (hB.cell (p := ⟨b', off' + k, none⟩) hb').trans hcb'
        by_cases hsame : nth xs k = nth ys k
        · have hs1 : (!(nth xs k).toList == (nth ys k).toList) = false := by rw [hsame]; simp
          go_wp2
          go_quiet (fail)
          go_wp2
          go_roundw
          case rel => 
            refine ⟨k + 1, by go_num, by omega, fun j hj => ?_, below_drewN hB _⟩
            rcases Nat.lt_succ_iff_lt_or_eq.1 hj with h | rfl
            · exact hall j h
            · exact hsame
          case measure => simp [intOf]; omega
        · have hs1 : (!(nth xs k).toList == (nth ys k).toList) = true := by
            simp only [Bool.not_eq_true', beq_eq_false_iff_ne]
            intro e; rw [Lib.toList_data, Lib.toList_data] at e; exact hsame (string_eq e)
          go_wp2
          go_quiet (fail)
          go_wp2
          go_ret
          exact ⟨ret_bool (by symm; rw [decide_eq_false_iff_not]; intro e; exact hsame (by rw [e])), below_drewN hB _⟩
      · go_wp2
        go_ret
        refine ⟨ret_bool ?_, hB⟩
        symm
        rw [decide_eq_true_iff]
        refine List.ext_getElem heq fun j h1 h2 => ?_
        have := hall j (by omega)
        rwa [nth_lt _ _ h1, nth_lt _ _ h2] at this
  · have hq : ((xs.length : Int) != (ys.length : Int)) = true := by simp only [bne_iff_ne]; omega
    go_enter Try.func10, Try.ntmps10
    go_wp2
    go_ret
    exact ⟨ret_bool (by symm; rw [decide_eq_false_iff_not]; intro e; exact heq (by rw [e])), Below.refl _ _⟩
end Go.Proofs.Ythnpedkinelemaa
