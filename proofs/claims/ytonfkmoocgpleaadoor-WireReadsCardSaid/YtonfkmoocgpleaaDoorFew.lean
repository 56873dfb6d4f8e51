/- The values that the laws take, and how many there may be. -/
import Derived.Test.YtonfkmoocgpleaaDoorSmall
namespace Go.Proofs.YtonfkmoocgpleaaDoor
open Go.RowKit

/-- A value to write. -/
structure V where
  kind : Int
  n : Int
  s : ByteArray
  l : List Int
  t : List ByteArray

def V.fits (v : V) : Prop := v.l.length ≤ 400 ∧ v.t.length ≤ 400 ∧ v.s.size ≤ 400 ∧ ∀ x ∈ v.t, x.size ≤ 400
def V.wf (v : V) : Prop := (-9223372036854775808 ≤ v.kind ∧ v.kind ≤ 9223372036854775807) ∧ (-9223372036854775808 ≤ v.n ∧ v.n ≤ 9223372036854775807) ∧ (∀ x ∈ v.l, -9223372036854775808 ≤ x ∧ x ≤ 9223372036854775807) ∧
  v.l.length ≤ 9223372036854775807 ∧ v.t.length ≤ 9223372036854775807 ∧ v.s.size ≤ 9223372036854775807 ∧ ∀ x ∈ v.t, x.size ≤ 9223372036854775807
/-- Its two slices read as its two lists. -/
def VAt (w : World) (n₀ : Nat) (lv tv : Value) (v : V) : Prop := Row (Value.int .i64) w n₀ lv v.l ∧ Row Value.string w n₀ tv v.t ∧ v.wf
theorem VAt.below {w w' : World} {n₀ : Nat} {lv tv : Value} {v : V} (h : VAt w n₀ lv tv v) (hb : Below n₀ w w') : VAt w' n₀ lv tv v := ⟨h.1.below hb, h.2.1.below hb, h.2.2⟩
theorem VAt.mono {w : World} {n₀ n₁ : Nat} {lv tv : Value} {v : V} (h : VAt w n₀ lv tv v) (hn : n₀ ≤ n₁) : VAt w n₁ lv tv v := ⟨h.1.mono hn, h.2.1.mono hn, h.2.2⟩

/-- A slice of values. -/
def VRow (w : World) (n₀ : Nat) (v : Value) (xs : List V) : Prop :=
  ∃ x cap, v = .slice x xs.length cap ∧ ∀ j (h : j < xs.length), ∃ b off lv tv, b < n₀ ∧ x = some ⟨b, off, none⟩ ∧ VAt w n₀ lv tv xs[j] ∧
    w.cell? ⟨b, off + j * 5, none⟩ = some (.int .i64 xs[j].kind) ∧ w.cell? ⟨b, off + j * 5 + 1, none⟩ = some (.int .i64 xs[j].n) ∧ w.cell? ⟨b, off + j * 5 + 2, none⟩ = some (.string xs[j].s) ∧
    w.cell? ⟨b, off + j * 5 + 3, none⟩ = some lv ∧ w.cell? ⟨b, off + j * 5 + 4, none⟩ = some tv

/-- What 'few' tells. -/
def FewPost (xs : List V) (w : World) (e : Ending) (w' : World) : Prop := (∃ m, w' = w.drewN m) ∧ ∃ b, e = .returned (.bool b) ∧ (b = true → xs.length ≤ 20 ∧ ∀ x ∈ xs, x.fits)
theorem fewNo (xs : List V) (w : World) (m : Nat) : FewPost xs w (.returned (.bool false)) (w.drewN m) := ⟨⟨m, rfl⟩, _, rfl, fun h => by cases h⟩

set_option maxRecDepth 100000 in
set_option maxHeartbeats 1000000 in
theorem few_any (v : Value) (xs : List V) (w : World) (hl : xs.length ≤ 9223372036854775807) (hv : VRow w w.heap.size v xs) :
    Calls Tryd.prog 9 #[v] w (FewPost xs w) := by
  obtain ⟨x, cap, rfl, hc⟩ := hv
  have hC := Lib.hid hc
  clear hc
  by_cases hbig : 20 < xs.length
  · have hb1 : (20 : Int) < xs.length := by omega
    go_enter Tryd.func9, Tryd.ntmps9
    go_wp2
    go_ret
    exact fewNo _ _ 0
  · have hb1 : (xs.length : Int) ≤ 20 := by omega
    go_enter Tryd.func9, Tryd.ntmps9
    go_wp2
    go_loopw [3, 4] (fun nv iv wr => ∃ (i n : Nat), iv = .int .i64 i ∧ nv = .int .i64 n ∧ i ≤ xs.length ∧ n ≤ i * 162000 ∧ Hid (∀ j (h : j < xs.length), j < i → xs[j].fits) ∧ ∃ m, wr = w.drewN m) (fun _ iv _ => xs.length - (intOf iv).toNat)
    case atStart => exact ⟨0, 0, rfl, rfl, Nat.zero_le _, Nat.le_refl _, fun j h h1 => by omega, 0, rfl⟩
    case round =>
      obtain ⟨i, n, rfl, rfl, hi, hn, hfit, m, rfl⟩ := hrel
      by_cases hlt : i < xs.length
      · obtain ⟨b, off, lv, tv, hb, rfl, ⟨hlv, htv, hwf⟩, c0, c1, c2, c3, c4⟩ := hC.out i hlt
        obtain ⟨y, hy⟩ : ∃ y, xs[i] = y := ⟨_, rfl⟩
        rw [hy] at hlv htv hwf c0 c1 c2
        obtain ⟨lx, lcap, rfl, hlc⟩ := hlv
        obtain ⟨tx, tcap, rfl, htc⟩ := htv
        have HL := Lib.hid hlc
        have HT := Lib.hid htc
        have HW := Lib.hid hwf
        have HY := Lib.hid hy
        clear hlc htc hwf hy
        by_cases hL4 : 400 < y.l.length
        · have e1 : (400 : Int) < y.l.length := by omega
          go_wp2
          go_ret
          exact fewNo _ _ _
        · have e1 : (y.l.length : Int) ≤ 400 := by omega
          by_cases hT4 : 400 < y.t.length
          · have e2 : (400 : Int) < y.t.length := by omega
            go_wp2
            go_ret
            exact fewNo _ _ _
          · have e2 : (y.t.length : Int) ≤ 400 := by omega
            by_cases hS4 : 400 < y.s.size
            · have e3 : (400 : Int) < y.s.size := by omega
              go_wp2
              go_ret
              exact fewNo _ _ _
            · have e3 : (y.s.size : Int) ≤ 400 := by omega
              have hn2 : n ≤ 3240000 := Nat.le_trans hn (Nat.le_trans (Nat.mul_le_mul_right _ (by omega : i ≤ 20)) (by omega))
              go_wp2
              go_quiet (fail)
              go_wp2
              go_loopw [3, 5] (fun nv kv wr => ∃ (k n' : Nat), kv = .int .i64 k ∧ nv = .int .i64 n' ∧ k ≤ y.t.length ∧ n' ≤ n + 1200 + k * 400 ∧ Hid (∀ j (h : j < y.t.length), j < k → y.t[j].size ≤ 400) ∧ ∃ m, wr = w.drewN m) (fun _ kv _ => y.t.length - (intOf kv).toNat)
              case atStart => exact ⟨0, n + y.s.size + y.l.length + y.t.length, rfl, by go_num, Nat.zero_le _, by omega, fun j h h1 => by omega, _, World.drewN_drewN ..⟩
              case round =>
                obtain ⟨k, n', rfl, rfl, hk, hn', hsm, m', rfl⟩ := hrel
                by_cases hkl : k < y.t.length
                · obtain ⟨b2, off2, hb2, rfl, hcb2⟩ := HT.out k hkl
                  obtain ⟨z, hz⟩ : ∃ z, y.t[k] = z := ⟨_, rfl⟩
                  rw [hz] at hcb2
                  have HZ := Lib.hid hz
                  clear hz
                  by_cases hz4 : 400 < z.size
                  · have e4 : (400 : Int) < z.size := by omega
                    go_wp2
                    go_ret
                    exact fewNo _ _ _
                  · have e4 : (z.size : Int) ≤ 400 := by omega
                    go_wp2
                    go_roundw
                    case rel =>
                      refine ⟨k + 1, n' + z.size, by go_num, by go_num, by omega, by omega, fun j h h1 => ?_, m', rfl⟩
                      by_cases e : j = k
                      · subst e; rw [HZ.out]; omega
                      · exact hsm j h (by omega)
                    case measure => simp only [intOf]; omega
                · have hk4 : k * 400 ≤ 400 * 400 := Nat.mul_le_mul (by omega) (Nat.le_refl _)
                  have hfy : Hid (y.fits) := ⟨by omega, by omega, by omega, fun x hx => by
                    obtain ⟨j, hj, rfl⟩ := List.getElem_of_mem hx
                    exact hsm.out j hj (by omega)⟩
                  clear hsm
                  go_wp2
                  go_roundw
                  case rel =>
                    refine ⟨i + 1, n', by go_num, rfl, by omega, by omega, fun j h h1 => ?_, m', rfl⟩
                    by_cases e : j = i
                    · subst e; rw [HY.out]; exact hfy.out
                    · exact hfit j h (by omega)
                  case measure => simp only [intOf]; omega
      · have hall : Hid (∀ x ∈ xs, x.fits) := fun x hx => by
          obtain ⟨j, hj, rfl⟩ := List.getElem_of_mem hx
          exact hfit.out j hj (by omega)
        clear hfit
        go_wp2
        go_ret
        exact ⟨⟨m, rfl⟩, _, rfl, fun _ => ⟨by omega, hall.out⟩⟩
end Go.Proofs.YtonfkmoocgpleaaDoor
