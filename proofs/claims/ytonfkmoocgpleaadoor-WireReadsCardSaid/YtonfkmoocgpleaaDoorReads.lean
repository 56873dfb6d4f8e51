/- The reader's methods for single values. -/
import Derived.Test.YtonfkmoocgpleaaDoorReader
namespace Go.Proofs.YtonfkmoocgpleaaDoor
open Go.RowKit

/-- A number and the byte behind it. -/
def numP (limit : Nat) (c : UInt8) (l : List UInt8) : Option (Nat × List UInt8) :=
  match digP limit l with
  | some (v, d :: t) => if d = c then some (v, t) else none
  | _ => none

/-- What a method leaves: the value and what is left; or its zero value, the reader failed. -/
def ReadPost {α : Type} (enc : α → Value) (zero : Value) (w : World) (p : Nat) (b : Bool) (res : Option (α × List UInt8)) (e : Ending) (w' : World) : Prop :=
  Only p w w' ∧ match res with
  | some (v, rest) => e = .returned (enc v) ∧ ∃ r', r'.data.toList = rest ∧ RAt 53 w' p r' b
  | none => e = .returned zero ∧ RAt 53 w' p ⟨#[]⟩ true

theorem readSome {α : Type} {enc : α → Value} {zero : Value} {w w' : World} {p : Nat} {b : Bool} {res : Option (α × List UInt8)} {v : α} {rest : List UInt8} {r' : ByteArray} (hres : res = some (v, rest)) (hr' : r'.data.toList = rest) (hr : RAt 53 w' p r' b) (ho : Only p w w') : ReadPost enc zero w p b res (.returned (enc v)) w' := by
  subst hres; exact ⟨ho, rfl, r', hr', hr⟩
theorem readNone {α : Type} {enc : α → Value} {zero : Value} {w w' : World} {p : Nat} {b : Bool} {res : Option (α × List UInt8)} (hres : res = none) (ho : Only p w w') (hr : RAt 53 w' p ⟨#[]⟩ true) : ReadPost enc zero w p b res (.returned zero) w' := by
  subst hres; exact ⟨ho, rfl, hr⟩

set_option maxRecDepth 100000 in
set_option maxHeartbeats 1000000 in
theorem rNum_any (w : World) (p : Nat) (r : ByteArray) (b : Bool) (h : RAt 53 w p r b) (hrz : r.size ≤ 1000000000) :
    Calls Tryd.prog 23 #[.pointer (some ⟨p, 0, none⟩)] w (ReadPost (fun n : Nat => .int .i64 n) (.int .i64 0) w p b (numP 9223372036854775807 59 r.data.toList)) := by
  have hd := digits_any w p r b 9223372036854775807 h (by omega) (by omega) hrz
  have HD := Lib.hid hd
  clear hd
  cases hdp : digP 9223372036854775807 r.data.toList with
  | none =>
    have hres : numP 9223372036854775807 59 r.data.toList = none := by unfold numP; rw [hdp]
    rw [hdp] at HD
    have HR := Lib.hid hres
    clear hres hdp
    go_enter Tryd.func23, Tryd.ntmps23
    go_wp2_with (go_at_call 45; refine HD.out.mono ?_; rintro e w1 ⟨o1, rfl, g1⟩)
    go_ret
    exact readNone HR.out o1 g1
  | some vr =>
    obtain ⟨v, rest⟩ := vr
    have hvl : v ≤ 9223372036854775807 := digP_le hdp
    rw [hdp] at HD
    by_cases hc : ∃ t, rest = 59 :: t
    · obtain ⟨t, rfl⟩ := hc
      have hres : numP 9223372036854775807 59 r.data.toList = some (v, t) := by unfold numP; rw [hdp]; simp
      have HR := Lib.hid hres
      clear hres hdp
      go_enter Tryd.func23, Tryd.ntmps23
      go_wp2_with (go_at_call 45; refine HD.out.mono ?_)
      rintro e w1 ⟨o1, rfl, r1, hr1, g1⟩
      have HS := Lib.hid (skip_yes w1 p r1 b 59 t g1 hr1)
      clear hr1
      go_wp2_with (go_at_call 46; refine HS.out.mono ?_)
      rintro e w2 ⟨rfl, ⟨r2, hr2, g2⟩, o2⟩
      have HR2 := Lib.hid hr2
      clear hr2
      go_wp2
      go_ret
      exact readSome HR.out HR2.out g2 (o1.trans o2)
    · have hres : numP 9223372036854775807 59 r.data.toList = none := by
        unfold numP; rw [hdp]
        cases rest with
        | nil => rfl
        | cons d t => simp only; rw [if_neg (fun e => hc ⟨t, by rw [e]⟩)]
      have HR := Lib.hid hres
      clear hres hdp
      go_enter Tryd.func23, Tryd.ntmps23
      go_wp2_with (go_at_call 45; refine HD.out.mono ?_)
      rintro e w1 ⟨o1, rfl, r1, hr1, g1⟩
      have HS := Lib.hid (skip_no w1 p r1 b 59 g1 (fun t e => hc ⟨t, by rw [← hr1, e]⟩))
      clear hr1 hc
      go_wp2_with (go_at_call 46; refine HS.out.mono ?_)
      rintro e w2 ⟨rfl, g2, o2⟩
      go_wp2
      go_ret
      exact readNone HR.out (o1.trans o2) g2
end Go.Proofs.YtonfkmoocgpleaaDoor
