/- The law WireWrites, walked. -/
import Derived.Test.YtonfkmoocgpleaaDoorFew
import Derived.Lib.QuietBelow
namespace Go.Proofs.YtonfkmoocgpleaaDoor
open Go.RowKit

/-- One value in memory, as a slice of one. -/
theorem one_row (w : World) (v : V) (lv tv : Value) (hv : VAt w w.heap.size lv tv v) :
    VRow (w.alloc (.cells #[.int .i64 v.kind, .int .i64 v.n, .string v.s, lv, tv] 25)) (w.alloc (.cells #[.int .i64 v.kind, .int .i64 v.n, .string v.s, lv, tv] 25)).heap.size (.slice (some ⟨w.heap.size, 0, none⟩) 1 1) [v] := by
  have hb : Below w.heap.size w (w.alloc (.cells #[.int .i64 v.kind, .int .i64 v.n, .string v.s, lv, tv] 25)) := (Below.refl _ w).alloc (Nat.le_refl _) _
  have hn := fun i => Lib.cell_of_heap (World.alloc_heap_new w (.cells #[.int .i64 v.kind, .int .i64 v.n, .string v.s, lv, tv] 25)) i
  refine ⟨_, 1, rfl, fun j hj => ?_⟩
  obtain rfl : j = 0 := by simpa using hj
  exact ⟨w.heap.size, 0, lv, tv, by simp, rfl, (hv.below hb).mono hb.size, hn 0, hn 1, hn 2, hn 3, hn 4⟩

/-- The encoding of a number: none where it is negative. -/
def encNum (n : Int) : List UInt8 := if n < 0 then [] else encInt n
theorem Num_all (n : Int) (h1 : n ≤ 9223372036854775807) (w : World) (ht : Tab w) : Calls Tryd.prog 10 #[.int .i64 n] w fun e w' => e = .returned (.string ⟨(encNum n).toArray⟩) ∧ Kept w w' := by
  unfold encNum
  by_cases h : n < 0
  · rw [if_pos h]; exact Num_neg n h w
  · rw [if_neg h]; exact Num_pos n (by omega) h1 w ht
theorem RefNum_all (n : Int) (h1 : n ≤ 9223372036854775807) (w : World) : Calls Tryd.prog 11 #[.int .i64 n] w fun e w' => e = .returned (.string ⟨(encNum n).toArray⟩) ∧ Kept w w' := by
  unfold encNum
  by_cases h : n < 0
  · rw [if_pos h]; exact RefNum_neg n h w
  · rw [if_neg h]; exact RefNum_pos n (by omega) h1 w

theorem Text_all (s : ByteArray) (hs : s.size ≤ 1000000000) (w : World) (ht : Tab w) : Calls Tryd.prog 14 #[.string s] w fun e w' => e = .returned (.string ⟨(encS s).toArray⟩) ∧ Kept w w' := Text_any s hs w ht

set_option maxRecDepth 100000 in
set_option maxHeartbeats 1000000 in
theorem writes_any (v : V) (lv tv : Value) (w : World) (ht : Tab w) (hv : VAt w w.heap.size lv tv v) :
    Calls Tryd.prog 3 #[.agg #[.int .i64 v.kind, .int .i64 v.n, .string v.s, lv, tv]] w fun e w' => e = .returned (.bool true) ∧ Kept w w' := by
  have hk0 : Kept w (w.alloc (.cells #[.int .i64 v.kind, .int .i64 v.n, .string v.s, lv, tv] 25)) := (Below.refl _ w).alloc (Nat.le_refl _) _
  have hn := fun i => Lib.cell_of_heap (World.alloc_heap_new w (.cells #[.int .i64 v.kind, .int .i64 v.n, .string v.s, lv, tv] 25)) i
  obtain ⟨w0, hw0⟩ : ∃ w0, w0 = w.alloc (.cells #[.int .i64 v.kind, .int .i64 v.n, .string v.s, lv, tv] 25) := ⟨_, rfl⟩
  have hS := small_any _ (ht.kept hk0)
  have HS := Lib.hid hS
  clear hS
  go_enter Tryd.func3, Tryd.ntmps3
  go_wp2_with (go_at_call 8; refine HS.out.mono ?_)
  rintro e w1 ⟨rfl, b1⟩
  rw [← hw0] at hk0 hn b1
  have k1 := hk0.trans b1
  have t1 := ht.kept k1
  have v1 : VAt w1 w1.heap.size lv tv v := (hv.below k1).mono k1.size
  have hlt : w.heap.size < w0.heap.size := by rw [hw0]; simp
  obtain ⟨B, hB⟩ : ∃ B, B = w.heap.size := ⟨_, rfl⟩
  have hq : ∀ w', Kept w0 w' → ∀ i, w'.cell? ⟨B, i, none⟩ = #[.int .i64 v.kind, .int .i64 v.n, .string v.s, lv, tv][i]? := fun w' hk i => by
    rw [hB]; exact (Below.cell (p := ⟨w.heap.size, i, none⟩) hk hlt).trans (hn i)
  have HQ := Lib.hid hq
  rw [← hB]
  have q0 := hq w1 b1 0
  have q1 := hq w1 b1 1
  have q2 := hq w1 b1 2
  have q3 := hq w1 b1 3
  have q4 := hq w1 b1 4
  have hrow := one_row w1 v lv tv v1
  have HF := Lib.hid (few_any _ [v] _ (by simp) hrow)
  have hk2 : Kept w1 (w1.alloc (.cells #[.int .i64 v.kind, .int .i64 v.n, .string v.s, lv, tv] 25)) := (Below.refl _ w1).alloc (Nat.le_refl _) _
  clear hrow hq hn hB hw0 HS
  simp only [List.getElem?_toArray, List.getElem?_cons_zero, List.getElem?_cons_succ] at q0 q1 q2 q3 q4
  go_wp2_with (go_at_call 9; refine HF.out.mono ?_)
  rintro e w2 ⟨⟨m, rfl⟩, b, rfl, hfit⟩
  obtain ⟨w3, hw3⟩ : ∃ w3, w3 = (w1.alloc (.cells #[.int .i64 v.kind, .int .i64 v.n, .string v.s, lv, tv] 25)).drewN m := ⟨_, rfl⟩
  have b3 : Kept w1 w3 := by rw [hw3]; exact below_drewN hk2 m
  rw [← hw3]
  have k3 : Kept w w3 := k1.trans b3
  have o3 : Kept w0 w3 := b1.trans b3
  clear hw3 hk2 b3 b1 k1 v1 t1 q0 q1 q2 q3 q4 hk0 hlt
  cases b
  · clear hfit
    go_wp2
    go_ret
    exact ⟨rfl, k3⟩
  · obtain ⟨f1, f2, f3, f4⟩ := (hfit rfl).2 v (by simp)
    obtain ⟨_, ⟨hn0, hn1⟩, hli, _⟩ := hv.2.2
    have hts : ∀ x ∈ v.t, x.size ≤ 1000 := fun x hx => by have := f4 x hx; omega
    have R1 : ∀ w', Kept w w' → Row (Value.int .i64) w' w'.heap.size lv v.l := fun w' hk => hv.1.kept hk
    have R2 : ∀ w', Kept w w' → Row Value.string w' w'.heap.size tv v.t := fun w' hk => hv.2.1.kept hk
    have q1 := HQ.out w3 o3 1
    have q2 := HQ.out w3 o3 2
    have q3 := HQ.out w3 o3 3
    have q4 := HQ.out w3 o3 4
    simp only [List.getElem?_toArray, List.getElem?_cons_zero, List.getElem?_cons_succ] at q1 q2 q3 q4
    clear hfit f4
    have hmix : Tryd.prog.follows .mixedOrders = true := by kernel_rfl
    have d1 := cell_regrown q1
    have d2 := cell_regrown q2
    have d3 := cell_regrown q3
    have d4 := cell_regrown q4
    have C10 := fun d os => Calls.regrown_of (Num_all v.n hn1 _ (ht.kept (k3.trans (below_regrown w3 d os))))
    have C11 := fun d os => Calls.regrown_of (RefNum_all v.n hn1 (Go.Sort.grow (redrawn w3 d) os))
    have C12 := fun d os => Calls.regrown_of (Int_any v.n hn0 hn1 _ (ht.kept (k3.trans (below_regrown w3 d os))))
    have C13 := fun d os => Calls.regrown_of (RefInt_any v.n hn0 hn1 (Go.Sort.grow (redrawn w3 d) os))
    have C14 := fun d os => Calls.regrown_of (Text_all v.s (by omega) _ (ht.kept (k3.trans (below_regrown w3 d os))))
    have C15 := fun d os => Calls.regrown_of (RefText_any v.s (by omega) (Go.Sort.grow (redrawn w3 d) os))
    have HH := Lib.hid (And.intro C10 (And.intro C11 (And.intro C12 (And.intro C13 (And.intro C14 C15)))))
    clear C10 C11 C12 C13 C14 C15 q1 q2 q3 q4
    go_wp2
    refine wp_region_quiet_below hmix (by kernel_rfl) ?_
    repeat (quiet_step (first | exact HH.out.1 _ _ | exact HH.out.2.1 _ _ | exact HH.out.2.2.1 _ _ | exact HH.out.2.2.2.1 _ _ | exact HH.out.2.2.2.2.1 _ _ | exact HH.out.2.2.2.2.2 _ _))
    refine wpQuiet_nil ?_
    intro _ hw'
    obtain ⟨⟨dq, osq⟩, hw''⟩ := hw'
    subst hw''
    have k4 : Kept w (Go.Sort.grow (redrawn w3 dq) osq) := k3.trans (below_regrown w3 dq osq)
    have o4 : Kept w0 (Go.Sort.grow (redrawn w3 dq) osq) := o3.trans (below_regrown w3 dq osq)
    obtain ⟨w4, hw4⟩ : ∃ w4, w4 = Go.Sort.grow (redrawn w3 dq) osq := ⟨_, rfl⟩
    show Exit.then _ _ Exit.normal _ (Go.Sort.grow (redrawn w3 dq) osq)
    rw [← hw4] at k4 o4 ⊢
    have q3 := HQ.out w4 o4 3
    have q4 := HQ.out w4 o4 4
    simp only [List.getElem?_toArray, List.getElem?_cons_zero, List.getElem?_cons_succ] at q3 q4
    have e3 := cell_regrown q3
    have e4 := cell_regrown q4
    have C16 := fun d os => Calls.regrown_of (Nums_any lv v.l _ (ht.kept (k4.trans (below_regrown w4 d os))) (by omega) hli (R1 _ (k4.trans (below_regrown w4 d os))))
    have C17 := fun d os => Calls.regrown_of (RefNums_any lv v.l _ (by omega) hli (R1 _ (k4.trans (below_regrown w4 d os))))
    have C18 := fun d os => Calls.regrown_of (Texts_any tv v.t _ (ht.kept (k4.trans (below_regrown w4 d os))) (by omega) hts (R2 _ (k4.trans (below_regrown w4 d os))))
    have C19 := fun d os => Calls.regrown_of (RefTexts_any tv v.t _ (by omega) hts (R2 _ (k4.trans (below_regrown w4 d os))))
    have HI := Lib.hid (And.intro C16 (And.intro C17 (And.intro C18 C19)))
    clear C16 C17 C18 C19 HH d1 d2 d3 d4 q3 q4 hw4 R1 R2 hts
    go_wp2
    refine wp_region_quiet_below hmix (by kernel_rfl) ?_
    repeat (quiet_step (first | exact HI.out.1 _ _ | exact HI.out.2.1 _ _ | exact HI.out.2.2.1 _ _ | exact HI.out.2.2.2 _ _))
    refine wpQuiet_nil ?_
    intro _ hw'
    obtain ⟨⟨dr, osr⟩, hw''⟩ := hw'
    subst hw''
    go_wp2
    go_ret
    exact ⟨rfl, k4.trans (below_regrown w4 dr osr)⟩
end Go.Proofs.YtonfkmoocgpleaaDoor
