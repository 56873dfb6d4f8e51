/- kind, number. -/
import Derived.Test.YtonfkmoocgpleaaDoorBackPlain
import Derived.Test.YtonfkmoocgpleaaDoorElems2
import Derived.Test.YtonfkmoocgpleaaDoorFew
namespace Go.Proofs.YtonfkmoocgpleaaDoor
open Go.RowKit

/-- A value's kind; the number that it stands for. -/
def kindOf (n : Int) : Nat := (n % 5).toNat
def numOf (n : Int) : Nat := (if n < 0 then -(n + 1) else n).toNat

theorem tmod5_neg (a : Int) (h : a.tmod 5 < 0) : a.tmod 5 + 5 = (kindOf a : Nat) ∧ -5 < a.tmod 5 := by
  have h0 : a < 0 := by
    rcases Int.lt_or_le a 0 with h1 | h1
    · exact h1
    · rw [Int.tmod_eq_emod_of_nonneg h1] at h; omega
  obtain ⟨b, rfl⟩ : ∃ b : Int, a = -b := ⟨-a, by omega⟩
  rw [Int.neg_tmod, Int.tmod_eq_emod_of_nonneg (by omega)] at h ⊢
  unfold kindOf; omega
theorem tmod5_pos (a : Int) (h : 0 ≤ a.tmod 5) : a.tmod 5 = (kindOf a : Nat) := by
  unfold kindOf
  rcases Int.lt_or_le a 0 with h1 | h1
  · obtain ⟨b, rfl⟩ : ∃ b : Int, a = -b := ⟨-a, by omega⟩
    rw [Int.neg_tmod, Int.tmod_eq_emod_of_nonneg (by omega)] at h ⊢
    omega
  · rw [Int.tmod_eq_emod_of_nonneg h1] at h ⊢; omega
theorem kind_lt (a : Int) : kindOf a < 5 := by unfold kindOf; omega

theorem kind_any (a : Int) (n s lv tv : Value) (w : World) :
    Calls Tryd.prog 22 #[.agg #[.int .i64 a, n, s, lv, tv]] w fun e w' => e = .returned (.int .i64 (kindOf a)) ∧ Kept w w' := by
  rcases Int.lt_or_le (a.tmod 5) 0 with h | h
  · obtain ⟨e, h5⟩ := tmod5_neg a h
    have E2 := Lib.hid e
    clear e
    go_enter Tryd.func22, Tryd.ntmps22
    go_wp2
    go_ret
    exact ⟨congrArg (fun x => Ending.returned (Value.int .i64 x)) E2.out, (Below.refl _ w).alloc (Nat.le_refl _) _⟩
  · have E := Lib.hid (tmod5_pos a h)
    go_enter Tryd.func22, Tryd.ntmps22
    go_wp2
    go_ret
    exact ⟨congrArg (fun x => Ending.returned (Value.int .i64 x)) E.out, (Below.refl _ w).alloc (Nat.le_refl _) _⟩
theorem number_any (n : Int) (w : World) (h0 : -9223372036854775808 ≤ n) (h1 : n ≤ 9223372036854775807) :
    Calls Tryd.prog 55 #[.int .i64 n] w fun e w' => e = .returned (.int .i64 (numOf n)) ∧ w = w' := by
  by_cases h : n < 0
  · have e : IntKind.i64.wrap (n + 1) = n + 1 := Go.IntWalk.i64_in _ (by omega)
    have e2 : IntKind.i64.wrap (-(n + 1)) = -(n + 1) := Go.IntWalk.i64_in _ (by omega)
    go_enter Tryd.func55, Tryd.ntmps55
    go_wp2
    go_ret
    refine ⟨?_, rfl⟩
    simp [numOf, h]
    omega
  · go_enter Tryd.func55, Tryd.ntmps55
    go_wp2
    go_ret
    refine ⟨?_, rfl⟩
    simp [numOf]
    omega
/-- The encoding of a value. -/
def V.encK (v : V) (k : Nat) : List UInt8 := match k with
  | 0 => encInt (numOf v.n)
  | 1 => encInt v.n
  | 2 => encS v.s
  | 3 => encList encInt v.l
  | _ => encList encS v.t
def V.enc (v : V) : List UInt8 := v.encK (kindOf v.kind)
theorem V.small {v : V} (hf : v.fits) : (∀ x ∈ v.t, x.size ≤ 1000) ∧ v.t.length ≤ 100000 ∧ v.l.length ≤ 100000 ∧ v.s.size ≤ 1000000000 := ⟨fun x hx => by have := hf.2.2.2 x hx; omega, by have := hf.2.1; omega, by have := hf.1; omega, by have := hf.2.2.1; omega⟩
theorem numOf_le (n : Int) (h0 : -9223372036854775808 ≤ n) (h1 : n ≤ 9223372036854775807) : numOf n ≤ 9223372036854775807 := by unfold numOf; split <;> omega

set_option maxRecDepth 100000 in
set_option maxHeartbeats 1000000 in
theorem write_any (v : V) (lv tv : Value) (w : World) (ht : Tab w) (hv : VAt w w.heap.size lv tv v) (hf : v.fits) :
    Calls Tryd.prog 39 #[.agg #[.int .i64 v.kind, .int .i64 v.n, .string v.s, lv, tv]] w fun e w' => e = .returned (.string ⟨v.enc.toArray⟩) ∧ Kept w w' := by
  have hk0 : Kept w (w.alloc (.cells #[.int .i64 v.kind, .int .i64 v.n, .string v.s, lv, tv] 25)) := (Below.refl _ w).alloc (Nat.le_refl _) _
  have hn := fun i => Lib.cell_of_heap (World.alloc_heap_new w (.cells #[.int .i64 v.kind, .int .i64 v.n, .string v.s, lv, tv] 25)) i
  obtain ⟨w0, hw0⟩ : ∃ w0, w0 = w.alloc (.cells #[.int .i64 v.kind, .int .i64 v.n, .string v.s, lv, tv] 25) := ⟨_, rfl⟩
  obtain ⟨_, ⟨hn0, hn1⟩, hli, _⟩ := hv.2.2
  obtain ⟨hS1, hS2, hS3, hS4⟩ := V.small hf
  have hnum := numOf_le v.n hn0 hn1
  have HK := Lib.hid (kind_any v.kind (.int .i64 v.n) (.string v.s) lv tv (w.alloc (.cells #[.int .i64 v.kind, .int .i64 v.n, .string v.s, lv, tv] 25)))
  have hlt : w.heap.size < w0.heap.size := by rw [hw0]; simp
  obtain ⟨k, hk⟩ : ∃ k, k = kindOf v.kind := ⟨_, rfl⟩
  have hk5 : k < 5 := by rw [hk]; exact kind_lt _
  have hE : v.enc = v.encK k := by rw [hk]; rfl
  rw [hE]
  rw [← hk] at HK
  clear hE hk
  go_enter Tryd.func39, Tryd.ntmps39
  go_wp2_with (go_at_call 22; refine HK.out.mono ?_)
  rintro e w1 ⟨rfl, b1⟩
  rw [← hw0] at hk0 hn b1
  have k1 := hk0.trans b1
  have t1 := ht.kept k1
  have v1 : VAt w1 w1.heap.size lv tv v := (hv.below k1).mono k1.size
  obtain ⟨r1, r2, _⟩ := v1
  obtain ⟨B, hB⟩ : ∃ B, B = w.heap.size := ⟨_, rfl⟩
  have hq : ∀ i, w1.cell? ⟨B, i, none⟩ = #[.int .i64 v.kind, .int .i64 v.n, .string v.s, lv, tv][i]? := fun i => by
    rw [hB]; exact (Below.cell (p := ⟨w.heap.size, i, none⟩) b1 hlt).trans (hn i)
  rw [← hB]
  have q1 := hq 1
  have q2 := hq 2
  have q3 := hq 3
  have q4 := hq 4
  simp only [List.getElem?_toArray, List.getElem?_cons_zero, List.getElem?_cons_succ] at q1 q2 q3 q4
  have C1 := Lib.hid (Nums_any lv v.l w1 t1 hS3 hli r1)
  have C2 := Lib.hid (Texts_any tv v.t w1 t1 hS2 hS1 r2)
  have C3 := Lib.hid (Text_any v.s hS4 w1 t1)
  have C4 := Lib.hid (Int_any v.n hn0 hn1 w1 t1)
  have C5 := Lib.hid (Num_pos (numOf v.n) (by omega) (by omega) w1 t1)
  have C6 := Lib.hid (number_any v.n w1 hn0 hn1)
  clear hq hn hB hw0 HK r1 r2 hS1 hS2 hS3 hS4 hli hnum hlt b1 hk0 ht hv hf
  have hks : k = 0 ∨ k = 1 ∨ k = 2 ∨ k = 3 ∨ k = 4 := by omega
  clear hk5
  rcases hks with rfl | rfl | rfl | rfl | rfl
  · go_wp2_with (go_at_call 55; refine C6.out.mono ?_)
    rintro e w2 ⟨rfl, rfl⟩
    go_wp2_with (go_at_call 10; refine C5.out.mono ?_)
    rintro e w3 ⟨rfl, b3⟩
    go_wp2
    go_ret
    exact ⟨rfl, k1.trans b3⟩
  · go_wp2_with (go_at_call 12; refine C4.out.mono ?_)
    rintro e w3 ⟨rfl, b3⟩
    go_wp2
    go_ret
    exact ⟨rfl, k1.trans b3⟩
  · go_wp2_with (go_at_call 14; refine C3.out.mono ?_)
    rintro e w3 ⟨rfl, b3⟩
    go_wp2
    go_ret
    exact ⟨rfl, k1.trans b3⟩
  · go_wp2_with (go_at_call 16; refine C1.out.mono ?_)
    rintro e w3 ⟨rfl, b3⟩
    go_wp2
    go_ret
    exact ⟨rfl, k1.trans b3⟩
  · go_wp2_with (go_at_call 18; refine C2.out.mono ?_)
    rintro e w3 ⟨rfl, b3⟩
    go_wp2
    go_ret
    exact ⟨rfl, k1.trans b3⟩
end Go.Proofs.YtonfkmoocgpleaaDoor
