/- Same: two strings are equal but for the case of letters. -/
import Derived.Test.YthnpedkinelemaaMapped
namespace Go.Proofs.Ythnpedkinelemaa
open Go.RowKit

theorem below_drewN {B : Nat} {a w : World} (h : Below B a w) (n : Nat) : Below B a (w.drewN n) := ⟨h.os, h.tape, h.output, h.size, h.block⟩

def sameB (a b : ByteArray) : Bool := decide (a.data.toList.map lowB = b.data.toList.map lowB)

theorem same_iff (a b : ByteArray) (h : a.size = b.size) : sameB a b = true ↔ ∀ j, ∀ (h1 : j < a.size) (h2 : j < b.size), lowB a[j] = lowB b[j] := by
  unfold sameB
  rw [decide_eq_true_eq]
  constructor
  · intro he j h1 h2
    have e := congrArg (fun l => l[j]?) he
    simp only [List.getElem?_map] at e
    rw [List.getElem?_eq_getElem (by simpa using h1), List.getElem?_eq_getElem (by simpa using h2)] at e
    have e' := Option.some.inj e; exact e'
  · intro hall
    apply List.ext_getElem
    · simpa using h
    · intro j h1 h2
      simp only [List.length_map, Array.length_toList] at h1 h2
      rw [List.getElem_map, List.getElem_map]; exact hall j h1 h2

set_option maxHeartbeats 1000000 in
theorem Same_any (a b : ByteArray) (w : World) (ha : a.size ≤ 1000000) :
    Calls Try.prog 12 #[.string a, .string b] w fun e w' => e = .returned (.bool (sameB a b)) ∧ Below w.heap.size w w' := by
  by_cases hs : a.size = b.size
  · have hs1 : (a.size : Int) ≤ b.size := by omega
    have hs2 : (b.size : Int) ≤ a.size := by omega
    have hs3 : ((a.size : Int) != (b.size : Int)) = false := by rw [hs]; simp
    have HS := Lib.hid hs
    clear hs
    go_enter Try.func12, Try.ntmps12
    go_wp2
    go_loopw [13] (fun i wr => ∃ k : Nat, k ≤ a.size ∧ i = .int .i64 k ∧ Hid (∀ j, j < k → ∀ (h1 : j < a.size) (h2 : j < b.size), lowB a[j] = lowB b[j]) ∧ Below w.heap.size w wr) (fun i _ => a.size - (intOf i).toNat)
    case atStart => exact ⟨0, Nat.zero_le _, rfl, fun j h => by omega, Below.refl _ _⟩
    case round =>
      obtain ⟨k, hk, rfl, hall, hbw⟩ := hrel
      by_cases hlt : k < a.size
      · have hlt2 : k < b.size := by omega
        have i0 : (0 : Int) ≤ (k : Int) := by omega
        have i1 : (k : Int) < (a.size : Int) := by omega
        have i2 : (k : Int) < (b.size : Int) := by omega
        by_cases he : lowB a[k] = lowB b[k]
        · have he3 : (((lowB a[k]).toNat : Int) != ((lowB b[k]).toNat : Int)) = false := by rw [he]; simp
          have HE := Lib.hid he
          clear he
          go_wp2
          go_quiet ((go_at_call 25; exact Calls.quiet_of_same ((lower_any _ _).mono fun _ _ h => ⟨h.1, h.2.symm⟩)))
          go_wp2
          go_roundw
          case rel =>
            refine ⟨k + 1, by omega, by go_num, fun j h1 h2 h3 => ?_, below_drewN hbw _⟩
            rcases Nat.lt_or_ge j k with h | h
            · exact hall j h h2 h3
            · obtain rfl : j = k := by omega
              exact HE.out
          case measure => simp [intOf]; omega
        · have he3 : (((lowB a[k]).toNat : Int) != ((lowB b[k]).toNat : Int)) = true := by
            rw [bne_iff_ne]
            intro h
            exact he (UInt8.toNat_inj.1 (by omega))
          have hf : false = sameB a b := by
            symm; rw [Bool.eq_false_iff]
            intro h
            exact he ((same_iff a b HS.out).1 h k hlt hlt2)
          have HF := Lib.hid hf
          clear hf he
          go_wp2
          go_quiet ((go_at_call 25; exact Calls.quiet_of_same ((lower_any _ _).mono fun _ _ h => ⟨h.1, h.2.symm⟩)))
          go_wp2
          go_ret
          exact ⟨ret_bool HF.out, below_drewN hbw _⟩
      · have hf : true = sameB a b := ((same_iff a b HS.out).2 fun j h1 h2 => hall j (by omega) h1 h2).symm
        have HF := Lib.hid hf
        clear hf
        go_wp2
        go_ret
        exact ⟨ret_bool HF.out, hbw⟩
  · have hs3 : ((a.size : Int) != (b.size : Int)) = true := by rw [bne_iff_ne]; omega
    have hf : false = sameB a b := by
      symm; rw [Bool.eq_false_iff]
      intro h
      unfold sameB at h
      have := congrArg List.length (of_decide_eq_true h)
      simp at this
      exact hs this
    have HF := Lib.hid hf
    clear hf
    go_enter Try.func12, Try.ntmps12
    go_wp2
    go_ret
    exact ⟨ret_bool HF.out, Below.refl _ _⟩

end Go.Proofs.Ythnpedkinelemaa
