/- The law WirePrefix, walked. -/
import Derived.Test.YtonfkmoocgpleaaDoorWireBack
import Derived.Test.YtonfkmoocgpleaaDoorFewIs
import Derived.Test.YtonfkmoocgpleaaDoorWireWrites
import Derived.Deep.RegionHeld3
namespace Go.Proofs.YtonfkmoocgpleaaDoor
open Go.RowKit

theorem prefix_end {v x : V} (hv : v.wf) (hx : x.wf) (hk : kindOf v.kind = kindOf x.kind) {z : List UInt8} (h : x.enc = v.enc ++ z) : z = [] := by
  have key : ∀ k, x.encK k = v.encK k ++ z → z = [] := fun k h => by
    match k with
    | 0 =>
      have h1 := enc0 hv z
      have h2 := enc0 hx []
      rw [List.append_nil, h, h1] at h2
      exact congrArg Prod.snd (Option.some.inj h2)
    | 1 =>
      have h1 := enc1 hv z
      have h2 := enc1 hx []
      rw [List.append_nil, h, h1] at h2
      exact congrArg Prod.snd (Option.some.inj h2)
    | 2 =>
      have h1 := enc2 hv z
      have h2 := enc2 hx []
      rw [List.append_nil, h, h1] at h2
      exact congrArg Prod.snd (Option.some.inj h2)
    | 3 =>
      have h1 := enc3 hv z
      have h2 := enc3 hx []
      rw [List.append_nil, h, h1] at h2
      exact congrArg Prod.snd (Option.some.inj h2)
    | k + 4 =>
      have h1 := enc4 hv z
      have h2 := enc4 hx []
      rw [List.append_nil, show x.encK 4 = v.encK 4 ++ z from h, h1] at h2
      exact congrArg Prod.snd (Option.some.inj h2)
  exact key (kindOf v.kind) (by have := h; unfold V.enc at this; rwa [← hk] at this)

theorem Kept.drew {a w : World} (h : Kept a w) : Kept a w.drew := ⟨h.os, h.tape, h.output, by have := h.size; exact this, h.block⟩
theorem Kept.alloc {a w : World} (h : Kept a w) (o : Obj) : Kept a (w.alloc o) := h.trans ((Below.refl _ w).alloc (Nat.le_refl _) _)

theorem fewOne (v : V) (lv tv : Value) (w W : World) (hk : Kept w W) (hv : VAt w w.heap.size lv tv v) (c : Bool) (hc : c = true ↔ FewOk [v]) :
    Calls Tryd.prog 9 #[.slice (some ⟨W.heap.size, 0, none⟩) 1 1] (W.alloc (.cells #[.int .i64 v.kind, .int .i64 v.n, .string v.s, lv, tv] 25)) fun e w' => e = .returned (.bool c) ∧ Kept w w' := by
  have hr := one_row W v lv tv ((hv.below hk).mono hk.size)
  have hk2 : Kept w (W.alloc (.cells #[.int .i64 v.kind, .int .i64 v.n, .string v.s, lv, tv] 25)) := hk.trans ((Below.refl _ W).alloc (Nat.le_refl _) _)
  cases c
  · exact (few_no _ _ _ (by simp) hr (fun h => by have := hc.2 h; cases this)).mono fun _ _ h => ⟨h.1, hk2.trans h.2⟩
  · exact (few_yes _ _ _ (by simp) hr (hc.1 rfl)).mono fun _ _ h => ⟨h.1, hk2.trans h.2⟩
theorem fewOneD (v : V) (lv tv : Value) (w W : World) (hk : Kept w W) (hv : VAt w w.heap.size lv tv v) (c : Bool) (hc : c = true ↔ FewOk [v]) :
    Calls Tryd.prog 9 #[.slice (some ⟨W.heap.size, 0, none⟩) 1 1] (W.alloc (.cells #[.int .i64 v.kind, .int .i64 v.n, .string v.s, lv, tv] 25)).drew fun e w' => e = .returned (.bool c) ∧ Kept w w' := by
  have hr : VRow (W.alloc (.cells #[.int .i64 v.kind, .int .i64 v.n, .string v.s, lv, tv] 25)).drew (W.alloc (.cells #[.int .i64 v.kind, .int .i64 v.n, .string v.s, lv, tv] 25)).drew.heap.size (.slice (some ⟨W.heap.size, 0, none⟩) 1 1) [v] :=
    one_row W v lv tv ((hv.below hk).mono hk.size)
  have hk2 : Kept w (W.alloc (.cells #[.int .i64 v.kind, .int .i64 v.n, .string v.s, lv, tv] 25)).drew := (hk.alloc _).drew
  cases c
  · exact (few_no _ _ _ (by simp) hr (fun h => by have := hc.2 h; cases this)).mono fun _ _ h => ⟨h.1, hk2.trans h.2⟩
  · exact (few_yes _ _ _ (by simp) hr (hc.1 rfl)).mono fun _ _ h => ⟨h.1, hk2.trans h.2⟩
theorem kindOne (v : V) (lv tv : Value) (w W : World) (hk : Kept w W) : Calls Tryd.prog 22 #[.agg #[.int .i64 v.kind, .int .i64 v.n, .string v.s, lv, tv]] W fun e w' => e = .returned (.int .i64 (kindOf v.kind)) ∧ Kept w w' :=
  (kind_any v.kind _ _ _ _ W).mono fun _ _ h => ⟨h.1, hk.trans h.2⟩

set_option maxRecDepth 100000 in
set_option maxHeartbeats 2000000 in
theorem prefix_any (v : V) (lv tv : Value) (x : V) (lx tx : Value) (w : World) (ht : Tab w) (hv : VAt w w.heap.size lv tv v) (hx : VAt w w.heap.size lx tx x) :
    Calls Tryd.prog 6 #[.agg #[.int .i64 v.kind, .int .i64 v.n, .string v.s, lv, tv], .agg #[.int .i64 x.kind, .int .i64 x.n, .string x.s, lx, tx]] w (TrueKept w) := by
  have hk1 : Kept w (w.alloc (.cells #[.int .i64 v.kind, .int .i64 v.n, .string v.s, lv, tv] 25)) := (Below.refl _ w).alloc (Nat.le_refl _) _
  have hn1 := fun i => Lib.cell_of_heap (World.alloc_heap_new w (.cells #[.int .i64 v.kind, .int .i64 v.n, .string v.s, lv, tv] 25)) i
  obtain ⟨w1, hw1⟩ : ∃ w1, w1 = w.alloc (.cells #[.int .i64 v.kind, .int .i64 v.n, .string v.s, lv, tv] 25) := ⟨_, rfl⟩
  have hk2 : Kept w1 (w1.alloc (.cells #[.int .i64 x.kind, .int .i64 x.n, .string x.s, lx, tx] 25)) := (Below.refl _ w1).alloc (Nat.le_refl _) _
  have hn2 := fun i => Lib.cell_of_heap (World.alloc_heap_new w1 (.cells #[.int .i64 x.kind, .int .i64 x.n, .string x.s, lx, tx] 25)) i
  obtain ⟨w2, hw2⟩ : ∃ w2, w2 = w1.alloc (.cells #[.int .i64 x.kind, .int .i64 x.n, .string x.s, lx, tx] 25) := ⟨_, rfl⟩
  rw [← hw1] at hn1 hk1
  rw [← hw2] at hn2 hk2
  have hlt1 : w.heap.size < w1.heap.size := by rw [hw1]; simp
  have hlt2 : w1.heap.size < w2.heap.size := by rw [hw2]; simp
  have hsz : w1.heap.size = w.heap.size + 1 := by rw [hw1]; simp
  have HS := Lib.hid (small_any _ (ht.kept (hk1.trans hk2)))
  have hq1 : ∀ w', Kept w2 w' → ∀ i, w'.cell? ⟨w.heap.size, i, none⟩ = #[.int .i64 v.kind, .int .i64 v.n, .string v.s, lv, tv][i]? := fun w' hk i =>
    (Below.cell (p := ⟨w.heap.size, i, none⟩) (hk2.trans hk) hlt1).trans (hn1 i)
  have hq2 : ∀ w', Kept w2 w' → ∀ i, w'.cell? ⟨w.heap.size + 1, i, none⟩ = #[.int .i64 x.kind, .int .i64 x.n, .string x.s, lx, tx][i]? := fun w' hk i => by
    rw [← hsz]; exact (Below.cell (p := ⟨w1.heap.size, i, none⟩) hk hlt2).trans (hn2 i)
  have k2 := hk1.trans hk2
  have hw12 : w2 = (w.alloc (.cells #[.int .i64 v.kind, .int .i64 v.n, .string v.s, lv, tv] 25)).alloc (.cells #[.int .i64 x.kind, .int .i64 x.n, .string x.s, lx, tx] 25) := by rw [hw2, hw1]
  have HW12 := Lib.hid hw12
  have HQ := Lib.hid (And.intro hq1 hq2)
  clear hq1 hq2 hn1 hn2 hk1 hk2 hw1 hlt1 hlt2 hsz hw12 hw2
  go_enter Tryd.func6, Tryd.ntmps6
  go_wp2_with fail
  rw [← HW12.out]
  refine HS.out.mono ?_
  rintro e w3 ⟨rfl, b3⟩
  obtain ⟨B, hB⟩ : ∃ B, B = w.heap.size := ⟨_, rfl⟩
  rw [← hB] at HQ ⊢
  have v2 : VAt w2 w2.heap.size lv tv v := (hv.below k2).mono k2.size
  have x2 : VAt w2 w2.heap.size lx tx x := (hx.below k2).mono k2.size
  have t2 := ht.kept k2
  have hS : ∀ W, Kept w2 W → W.cell? ⟨B, 0, none⟩ = some (.int .i64 v.kind) ∧ W.cell? ⟨B, 1, none⟩ = some (.int .i64 v.n) ∧ W.cell? ⟨B, 2, none⟩ = some (.string v.s) ∧ W.cell? ⟨B, 3, none⟩ = some lv ∧ W.cell? ⟨B, 4, none⟩ = some tv ∧
      W.cell? ⟨B + 1, 0, none⟩ = some (.int .i64 x.kind) ∧ W.cell? ⟨B + 1, 1, none⟩ = some (.int .i64 x.n) ∧ W.cell? ⟨B + 1, 2, none⟩ = some (.string x.s) ∧ W.cell? ⟨B + 1, 3, none⟩ = some lx ∧ W.cell? ⟨B + 1, 4, none⟩ = some tx ∧ Kept w2 W := fun W hk =>
    ⟨HQ.out.1 W hk 0, HQ.out.1 W hk 1, HQ.out.1 W hk 2, HQ.out.1 W hk 3, HQ.out.1 W hk 4, HQ.out.2 W hk 0, HQ.out.2 W hk 1, HQ.out.2 W hk 2, HQ.out.2 W hk 3, HQ.out.2 W hk 4, hk⟩
  have HSt := Lib.hid hS
  obtain ⟨q0, q1, q2, q3, q4, y0, y1, y2, y3, y4, _⟩ := hS w3 b3
  clear hB HQ HW12 HS hv hx ht hS
  by_cases f1 : FewOk [v]
  · by_cases f2 : FewOk [x]
    · by_cases hk : kindOf v.kind = kindOf x.kind
      · have HF1 := Lib.hid (fun W hK => fewOne v lv tv w2 W hK v2 true ⟨fun _ => f1, fun _ => rfl⟩)
        have HF2 := Lib.hid (fun W hK => fewOne x lx tx w2 W hK x2 true ⟨fun _ => f2, fun _ => rfl⟩)
        have HD1 := Lib.hid (fun W hK => fewOneD v lv tv w2 W hK v2 true ⟨fun _ => f1, fun _ => rfl⟩)
        have HK1 := Lib.hid (fun W hK => kindOne v lv tv w2 W hK)
        have HK2 := Lib.hid (fun W hK => kindOne x lx tx w2 W hK)
        have fv : v.fits := f1.2.1 v (by simp)
        have fx : x.fits := f2.2.1 x (by simp)
        clear f1 f2
        go_wp2
        go_region_held3 (fun W => W.cell? ⟨B, 0, none⟩ = some (.int .i64 v.kind) ∧ W.cell? ⟨B, 1, none⟩ = some (.int .i64 v.n) ∧ W.cell? ⟨B, 2, none⟩ = some (.string v.s) ∧ W.cell? ⟨B, 3, none⟩ = some lv ∧ W.cell? ⟨B, 4, none⟩ = some tv ∧
      W.cell? ⟨B + 1, 0, none⟩ = some (.int .i64 x.kind) ∧ W.cell? ⟨B + 1, 1, none⟩ = some (.int .i64 x.n) ∧ W.cell? ⟨B + 1, 2, none⟩ = some (.string x.s) ∧ W.cell? ⟨B + 1, 3, none⟩ = some lx ∧ W.cell? ⟨B + 1, 4, none⟩ = some tx ∧ Kept w2 W) ((go_split_ands; exact HSt.out _ (by with_reducible (repeat (first | assumption | apply Kept.drew | apply Kept.alloc))))) (first | (go_at_call 9; go_split_ands; (with_reducible refine (HD1.out _ (by assumption)).mono ?_); rintro e w' ⟨rfl, hk'⟩) | (go_at_call 9; go_split_ands; (with_reducible refine (HF1.out _ (by assumption)).mono ?_); rintro e w' ⟨rfl, hk'⟩) | (go_at_call 9; go_split_ands; (with_reducible refine (HF2.out _ (by assumption)).mono ?_); rintro e w' ⟨rfl, hk'⟩) | (go_at_call 22; go_split_ands; (with_reducible refine (HK1.out _ (by assumption)).mono ?_); rintro e w' ⟨rfl, hk'⟩) | (go_at_call 22; go_split_ands; (with_reducible refine (HK2.out _ (by assumption)).mono ?_); rintro e w' ⟨rfl, hk'⟩))
        clear HF1 HF2 HD1 HK1 HK2 q0 q1 q2 q3 q4 y0 y1 y2 y3 y4
        obtain ⟨s, hs⟩ : ∃ s : ByteArray, s = ⟨v.enc.toArray⟩ := ⟨_, rfl⟩
        obtain ⟨t, ht⟩ : ∃ t : ByteArray, t = ⟨x.enc.toArray⟩ := ⟨_, rfl⟩
        have HWv := Lib.hid (write_any v lv tv w' (t2.kept hk') ((v2.below hk').mono hk'.size) fv)
        have HWx := Lib.hid (fun W (hW : Kept w2 W) => write_any x lx tx W (t2.kept hW) ((x2.below hW).mono hW.size) fx)
        rw [← hs] at HWv
        simp only [← ht] at HWx
        have hsd : s.data.toList = v.enc := by rw [hs]
        have htd : t.data.toList = x.enc := by rw [ht]
        have hse := V.enc_len v2.2.2 fv
        have hte := V.enc_len x2.2.2 fx
        have hsz : s.size = v.enc.length := by rw [← hsd]; rfl
        have htz : t.size = x.enc.length := by rw [← htd]; rfl
        have HHk := Lib.hid hk
        have HSd := Lib.hid hsd
        have HTd := Lib.hid htd
        have hs5 : s.size ≤ 500000 := by omega
        have ht5 : t.size ≤ 500000 := by omega
        obtain ⟨q0, q1, q2, q3, q4, _⟩ := HSt.out w' hk'
        clear hs ht hsd htd hsz htz hk hse hte
        go_wp2_with (go_at_call 39; refine HWv.out.mono ?_)
        rintro e w4 ⟨rfl, b4⟩
        have k4 := hk'.trans b4
        obtain ⟨q0, q1, q2, q3, q4, y0, y1, y2, y3, y4, _⟩ := HSt.out w4 k4
        go_wp2_with (go_at_call 39; refine (HWx.out _ k4).mono ?_)
        rintro e w5 ⟨rfl, b5⟩
        have k5 := k4.trans b5
        by_cases hgt : t.size < s.size
        · have hgi : (t.size : Int) < s.size := by omega
          go_wp2
          go_ret
          exact ⟨rfl, k2.trans k5⟩
        · have hgi : (s.size : Int) ≤ t.size := by omega
          have hmn : min (s.size : Int) t.size = s.size := by omega
          by_cases hpre : t.extract 0 s.size = s
          · have hxe : x.enc = v.enc ++ x.enc.drop v.enc.length := by
              have h1 : (t.extract 0 s.size).data.toList = x.enc.take v.enc.length := by
                rw [Lib.extract_data, HTd.out, List.drop_zero, Nat.sub_zero]
                congr 1
                show s.data.toList.length = _
                rw [HSd.out]
              rw [hpre, HSd.out] at h1
              exact (List.take_append_drop v.enc.length x.enc).symm.trans (by rw [← h1])
            have hz := prefix_end v2.2.2 x2.2.2 HHk.out hxe
            have hst : s = t := string_eq (by rw [HSd.out, HTd.out, hxe, hz, List.append_nil])
            subst hst
            have hbe : ((s.extract 0 s.size).toList == s.toList) = true := by rw [hpre]; simp
            have hle : x.enc.length ≤ 500000 := by rw [← HTd.out]; exact hs5
            clear hpre hxe hz
            go_wp2_with (go_at_call 20; refine (rOpen_any _ _).mono ?_)
            rintro e w6 ⟨rfl, g6, b6⟩
            have k6 := k5.trans b6
            have hp : w2.heap.size ≤ w5.heap.size := k5.size
            obtain ⟨q0, q1, q2, q3, q4, y0, y1, y2, y3, y4, _⟩ := HSt.out w6 k6
            have HE := Lib.hid (equal_yes x lx tx w6 w5.heap.size [] ((x2.below k6).mono hp) ⟨s, by rw [List.append_nil]; exact HTd.out, g6⟩ (by rw [List.append_nil]; omega))
            clear q0 q1 q2 q3 q4 hbe
            go_wp2_with (go_at_call 40; refine HE.out.mono ?_)
            rintro e w7 ⟨rfl, hA7, o7⟩
            go_wp2
            go_ret
            exact ⟨rfl, k2.trans (k6.only o7 hp)⟩
          · have hbe : ((t.extract 0 s.size).toList == s.toList) = false := by
              rw [beq_eq_false_iff_ne, Lib.toList_data, Lib.toList_data]
              exact fun h => hpre (string_eq h)
            clear hpre
            go_wp2
            go_ret
            exact ⟨rfl, k2.trans k5⟩
      · have HD1 := Lib.hid (fun W hK => fewOneD v lv tv w2 W hK v2 true ⟨fun _ => f1, fun _ => rfl⟩)
        have HF1 := Lib.hid (fun W hK => fewOne v lv tv w2 W hK v2 true ⟨fun _ => f1, fun _ => rfl⟩)
        have HF2 := Lib.hid (fun W hK => fewOne x lx tx w2 W hK x2 true ⟨fun _ => f2, fun _ => rfl⟩)
        have HK1 := Lib.hid (fun W hK => kindOne v lv tv w2 W hK)
        have HK2 := Lib.hid (fun W hK => kindOne x lx tx w2 W hK)
        have hki : ((kindOf v.kind : Int) == kindOf x.kind) = false := by rw [beq_eq_false_iff_ne]; omega
        have hkj : ((kindOf v.kind : Int) != kindOf x.kind) = true := by rw [bne_iff_ne]; omega
        have hkl : ¬ (kindOf v.kind : Int) = kindOf x.kind := by omega
        clear f1 f2 hk
        go_wp2
        go_region_held3 (fun W => W.cell? ⟨B, 0, none⟩ = some (.int .i64 v.kind) ∧ W.cell? ⟨B, 1, none⟩ = some (.int .i64 v.n) ∧ W.cell? ⟨B, 2, none⟩ = some (.string v.s) ∧ W.cell? ⟨B, 3, none⟩ = some lv ∧ W.cell? ⟨B, 4, none⟩ = some tv ∧
      W.cell? ⟨B + 1, 0, none⟩ = some (.int .i64 x.kind) ∧ W.cell? ⟨B + 1, 1, none⟩ = some (.int .i64 x.n) ∧ W.cell? ⟨B + 1, 2, none⟩ = some (.string x.s) ∧ W.cell? ⟨B + 1, 3, none⟩ = some lx ∧ W.cell? ⟨B + 1, 4, none⟩ = some tx ∧ Kept w2 W) ((go_split_ands; exact HSt.out _ (by with_reducible (repeat (first | assumption | apply Kept.drew | apply Kept.alloc))))) (first | (go_at_call 9; go_split_ands; (with_reducible refine (HD1.out _ (by assumption)).mono ?_); rintro e w' ⟨rfl, hk'⟩) | (go_at_call 9; go_split_ands; (with_reducible refine (HF1.out _ (by assumption)).mono ?_); rintro e w' ⟨rfl, hk'⟩) | (go_at_call 9; go_split_ands; (with_reducible refine (HF2.out _ (by assumption)).mono ?_); rintro e w' ⟨rfl, hk'⟩) | (go_at_call 22; go_split_ands; (with_reducible refine (HK1.out _ (by assumption)).mono ?_); rintro e w' ⟨rfl, hk'⟩) | (go_at_call 22; go_split_ands; (with_reducible refine (HK2.out _ (by assumption)).mono ?_); rintro e w' ⟨rfl, hk'⟩))
        go_wp2
        go_ret
        exact ⟨rfl, k2.trans hk'⟩
    · have HD1 := Lib.hid (fun W hK => fewOneD v lv tv w2 W hK v2 true ⟨fun _ => f1, fun _ => rfl⟩)
      have HF2 := Lib.hid (fun W hK => fewOne x lx tx w2 W hK x2 false ⟨(fun h => by cases h), fun h => absurd h f2⟩)
      have HF1 := Lib.hid (fun W hK => fewOne v lv tv w2 W hK v2 true ⟨fun _ => f1, fun _ => rfl⟩)
      clear f1 f2
      go_wp2
      go_region_with (first | (go_at_call 9; (with_reducible refine (HD1.out _ (by assumption)).mono ?_); rintro e w' ⟨rfl, hk'⟩; obtain ⟨q0, q1, q2, q3, q4, y0, y1, y2, y3, y4, _⟩ := HSt.out w' hk') | (go_at_call 9; (with_reducible refine (HF1.out _ (by assumption)).mono ?_); rintro e w' ⟨rfl, hk'⟩; obtain ⟨q0, q1, q2, q3, q4, y0, y1, y2, y3, y4, _⟩ := HSt.out w' hk') | (go_at_call 9; (with_reducible refine (HF2.out _ (by assumption)).mono ?_); rintro e w' ⟨rfl, hk'⟩))
      all_goals
        go_wp2
        go_ret
        exact ⟨rfl, k2.trans hk'⟩
  · have HD1 := Lib.hid (fun W hK => fewOneD v lv tv w2 W hK v2 false ⟨(fun h => by cases h), fun h => absurd h f1⟩)
    have HF1 := Lib.hid (fun W hK => fewOne v lv tv w2 W hK v2 false ⟨(fun h => by cases h), fun h => absurd h f1⟩)
    clear f1
    go_wp2
    go_region_with (first | (go_at_call 9; (with_reducible refine (HD1.out _ (by assumption)).mono ?_); rintro e w' ⟨rfl, hk'⟩) | (go_at_call 9; (with_reducible refine (HF1.out _ (by assumption)).mono ?_); rintro e w' ⟨rfl, hk'⟩))
    all_goals
      go_wp2
      go_ret
      exact ⟨rfl, k2.trans hk'⟩
end Go.Proofs.YtonfkmoocgpleaaDoor
