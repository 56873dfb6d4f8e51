/- 'few', told exactly. -/
import Derived.Test.YtonfkmoocgpleaaDoorFew
namespace Go.Proofs.YtonfkmoocgpleaaDoor
open Go.RowKit

def V.tsum (l : List ByteArray) : Nat := (l.map (·.size)).sum
def V.cost (v : V) : Nat := v.s.size + v.l.length + v.t.length + V.tsum v.t
def costs (xs : List V) : Nat := (xs.map V.cost).sum
def FewOk (xs : List V) : Prop := xs.length ≤ 20 ∧ (∀ x ∈ xs, x.fits) ∧ costs xs ≤ 400
theorem tsum_next (l : List ByteArray) (k : Nat) (h : k < l.length) : V.tsum (l.take (k + 1)) = V.tsum (l.take k) + l[k].size := by
  unfold V.tsum
  rw [List.take_succ_eq_append_getElem h, List.map_append, List.sum_append]; simp
theorem costs_next (l : List V) (k : Nat) (h : k < l.length) : costs (l.take (k + 1)) = costs (l.take k) + l[k].cost := by
  unfold costs
  rw [List.take_succ_eq_append_getElem h, List.map_append, List.sum_append]; simp

def FewIs (xs : List V) (w : World) (e : Ending) (w' : World) : Prop := (∃ m, w' = w.drewN m) ∧ ∃ b, e = .returned (.bool b) ∧ (b = true ↔ FewOk xs)
theorem isNo (xs : List V) (w : World) (m : Nat) (h : ¬ FewOk xs) : FewIs xs w (.returned (.bool false)) (w.drewN m) := ⟨⟨m, rfl⟩, false, rfl, ⟨fun h' => (by cases h'), fun h' => absurd h' h⟩⟩
theorem isNoAt (xs : List V) (w : World) (m i : Nat) (hi : i < xs.length) (h : ¬ xs[i].fits) : FewIs xs w (.returned (.bool false)) (w.drewN m) := isNo xs w m fun h' => h (h'.2.1 _ (List.getElem_mem _))

set_option maxRecDepth 100000 in
set_option maxHeartbeats 1000000 in
theorem few_is (v : Value) (xs : List V) (w : World) (hl : xs.length ≤ 9223372036854775807) (hv : VRow w w.heap.size v xs) :
    Calls Tryd.prog 9 #[v] w (FewIs xs w) := by
  obtain ⟨x, cap, rfl, hc⟩ := hv
  have hC := Lib.hid hc
  clear hc
  by_cases hbig : 20 < xs.length
  · have hb1 : (20 : Int) < xs.length := by omega
    go_enter Tryd.func9, Tryd.ntmps9
    go_wp2
    go_ret
    exact isNo _ _ 0 (fun h => by have := h.1; omega)
  · have hb1 : (xs.length : Int) ≤ 20 := by omega
    go_enter Tryd.func9, Tryd.ntmps9
    go_wp2
    go_loopw [3, 4] (fun nv iv wr => ∃ (i n : Nat), iv = .int .i64 i ∧ nv = .int .i64 n ∧ i ≤ xs.length ∧ n ≤ i * 162000 ∧ Hid (n = costs (xs.take i)) ∧ Hid (∀ j (h : j < xs.length), j < i → xs[j].fits) ∧ ∃ m, wr = w.drewN m) (fun _ iv _ => xs.length - (intOf iv).toNat)
    case atStart => exact ⟨0, 0, rfl, rfl, Nat.zero_le _, Nat.le_refl _, rfl, fun j h h1 => by omega, 0, rfl⟩
    case round =>
      obtain ⟨i, n, rfl, rfl, hi, hn, hco, hfit, m, rfl⟩ := hrel
      by_cases hlt : i < xs.length
      · obtain ⟨b, off, lv, tv, hb, rfl, ⟨hlv, htv, hwf⟩, c0, c1, c2, c3, c4⟩ := hC.out i hlt
        obtain ⟨y, hy⟩ : ∃ y, xs[i] = y := ⟨_, rfl⟩
        rw [hy] at hlv htv hwf c0 c1 c2
        obtain ⟨lx, lcap, rfl, hlc⟩ := hlv
        obtain ⟨tx, tcap, rfl, htc⟩ := htv
        have HL := Lib.hid hlc
        have HT := Lib.hid htc
        have HW := Lib.hid hwf
        have HY := Lib.hid hy
        clear hlc htc hwf hy
        by_cases hL4 : 400 < y.l.length
        · have e1 : (400 : Int) < y.l.length := by omega
          go_wp2
          go_ret
          exact isNoAt _ _ _ i hlt (fun h => by rw [HY.out] at h; have := h.1; omega)
        · have e1 : (y.l.length : Int) ≤ 400 := by omega
          by_cases hT4 : 400 < y.t.length
          · have e2 : (400 : Int) < y.t.length := by omega
            go_wp2
            go_ret
            exact isNoAt _ _ _ i hlt (fun h => by rw [HY.out] at h; have := h.2.1; omega)
          · have e2 : (y.t.length : Int) ≤ 400 := by omega
            by_cases hS4 : 400 < y.s.size
            · have e3 : (400 : Int) < y.s.size := by omega
              go_wp2
              go_ret
              exact isNoAt _ _ _ i hlt (fun h => by rw [HY.out] at h; have := h.2.2.1; omega)
            · have e3 : (y.s.size : Int) ≤ 400 := by omega
              have hn2 : n ≤ 3240000 := Nat.le_trans hn (Nat.le_trans (Nat.mul_le_mul_right _ (by omega : i ≤ 20)) (by omega))
              go_wp2
              go_quiet (fail)
              go_wp2
              go_loopw [3, 5] (fun nv kv wr => ∃ (k n' : Nat), kv = .int .i64 k ∧ nv = .int .i64 n' ∧ k ≤ y.t.length ∧ n' ≤ n + 1200 + k * 400 ∧ Hid (n' = n + y.s.size + y.l.length + y.t.length + V.tsum (y.t.take k)) ∧ Hid (∀ j (h : j < y.t.length), j < k → y.t[j].size ≤ 400) ∧ ∃ m, wr = w.drewN m) (fun _ kv _ => y.t.length - (intOf kv).toNat)
              case atStart => exact ⟨0, n + y.s.size + y.l.length + y.t.length, rfl, by go_num, Nat.zero_le _, by omega, rfl, fun j h h1 => by omega, _, World.drewN_drewN ..⟩
              case round =>
                obtain ⟨k, n', rfl, rfl, hk, hn', hct, hsm, m', rfl⟩ := hrel
                by_cases hkl : k < y.t.length
                · obtain ⟨b2, off2, hb2, rfl, hcb2⟩ := HT.out k hkl
                  obtain ⟨z, hz⟩ : ∃ z, y.t[k] = z := ⟨_, rfl⟩
                  rw [hz] at hcb2
                  have HZ := Lib.hid hz
                  clear hz
                  by_cases hz4 : 400 < z.size
                  · have e4 : (400 : Int) < z.size := by omega
                    go_wp2
                    go_ret
                    exact isNoAt _ _ _ i hlt (fun h => by rw [HY.out] at h; have := h.2.2.2 _ (List.getElem_mem hkl); rw [HZ.out] at this; omega)
                  · have e4 : (z.size : Int) ≤ 400 := by omega
                    go_wp2
                    go_roundw
                    case rel =>
                      refine ⟨k + 1, n' + z.size, by go_num, by go_num, by omega, by omega, (by show _ = _; rw [hct.out, tsum_next _ _ hkl, HZ.out]; omega), fun j h h1 => ?_, m', rfl⟩
                      by_cases e : j = k
                      · subst e; rw [HZ.out]; omega
                      · exact hsm j h (by omega)
                    case measure => simp only [intOf]; omega
                · have hk4 : k * 400 ≤ 400 * 400 := Nat.mul_le_mul (by omega) (Nat.le_refl _)
                  have hfy : Hid (y.fits) := ⟨by omega, by omega, by omega, fun x hx => by
                    obtain ⟨j, hj, rfl⟩ := List.getElem_of_mem hx
                    exact hsm.out j hj (by omega)⟩
                  have hcy : Hid (n' = costs (xs.take (i + 1))) := by
                    show _ = _
                    rw [costs_next _ _ hlt, HY.out, hct.out, List.take_of_length_le (by omega), hco.out]
                    unfold V.cost; omega
                  clear hsm
                  go_wp2
                  go_roundw
                  case rel =>
                    refine ⟨i + 1, n', by go_num, rfl, by omega, by omega, hcy, fun j h h1 => ?_, m', rfl⟩
                    by_cases e : j = i
                    · subst e; rw [HY.out]; exact hfy.out
                    · exact hfit j h (by omega)
                  case measure => simp only [intOf]; omega
      · have hall : Hid (∀ x ∈ xs, x.fits) := fun x hx => by
          obtain ⟨j, hj, rfl⟩ := List.getElem_of_mem hx
          exact hfit.out j hj (by omega)
        have hce : n = costs xs := by rw [hco.out, List.take_of_length_le (by omega)]
        have HCE := Lib.hid hce
        clear hfit hce
        go_wp2
        go_ret
        exact ⟨⟨m, rfl⟩, _, rfl, ⟨fun h => ⟨by omega, hall.out, by rw [← HCE.out]; have := of_decide_eq_true h; omega⟩, fun h => by have := h.2.2; rw [← HCE.out] at this; exact decide_eq_true (by omega)⟩⟩
theorem few_yes (v : Value) (xs : List V) (w : World) (hl : xs.length ≤ 9223372036854775807) (hv : VRow w w.heap.size v xs) (h : FewOk xs) :
    Calls Tryd.prog 9 #[v] w fun e w' => e = .returned (.bool true) ∧ Kept w w' :=
  (few_is v xs w hl hv).mono fun e w' ⟨⟨m, hm⟩, b, hb, hi⟩ => ⟨by rw [hb, hi.2 h], by rw [hm]; exact below_drewN (Below.refl _ _) m⟩
theorem few_no (v : Value) (xs : List V) (w : World) (hl : xs.length ≤ 9223372036854775807) (hv : VRow w w.heap.size v xs) (h : ¬ FewOk xs) :
    Calls Tryd.prog 9 #[v] w fun e w' => e = .returned (.bool false) ∧ Kept w w' :=
  (few_is v xs w hl hv).mono fun e w' ⟨⟨m, hm⟩, b, hb, hi⟩ => ⟨by rw [hb]; cases b; rfl; exact absurd (hi.1 rfl) h, by rw [hm]; exact below_drewN (Below.refl _ _) m⟩
end Go.Proofs.YtonfkmoocgpleaaDoor
