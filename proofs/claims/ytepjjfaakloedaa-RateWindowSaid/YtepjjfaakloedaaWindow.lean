/- The law RateWindow: its walk. -/
import Derived.Test.YtepjjfaakloedaaWindowPlain
import Derived.Deep.RegionHeld3
import Derived.Deep.DrawnRows
import Derived.Deep.DeepCutAuto
namespace Go.Proofs.Ytepjjfaakloedaa
open Go.RowKit
attribute [local go_sem ↓] Go.wp_at_zero Go.wp_at_succ

theorem times_below {w w' : World} {v : Value} (h : Times w v) (hb : Below w.heap.size w w') : Times w' v := by
  rcases h with ⟨x, cap, rfl⟩ | ⟨b, off, len, cap, zs, rfl, h1, h2, h3⟩
  · exact .inl ⟨x, cap, rfl⟩
  · exact .inr ⟨b, off, len, cap, zs, rfl, h1, fun j hj => by rw [hb.cell (by exact h3)]; exact h2 j hj, Nat.lt_of_lt_of_le h3 hb.size⟩

theorem window_out (milli at_ p b : Int) (v : Value) (w : World) (h : ¬ (1 ≤ p ∧ p ≤ 1000 ∧ 1 ≤ b ∧ b ≤ 1000)) :
    Calls Try.prog 3 #[.agg #[.int .i64 milli, .int .i64 at_], .int .i64 p, .int .i64 b, v] w fun e w' => e = .returned (.bool true) ∧ Below w.heap.size w w' := by
  rcases (show p < 1 ∨ (1 ≤ p ∧ 1000 < p) ∨ (1 ≤ p ∧ p ≤ 1000 ∧ b < 1) ∨ (1 ≤ p ∧ p ≤ 1000 ∧ 1 ≤ b ∧ 1000 < b) by omega) with
    c1 | ⟨c1, c2⟩ | ⟨c1, c2, c3⟩ | ⟨c1, c2, c3, c4⟩
  all_goals
    clear h
    go_enter Try.func3, Try.ntmps3
    go_wp2_with fail
    refine (small_any _).mono ?_
    rintro e w1 ⟨rfl, b1⟩
    go_wp2
    go_ret
    exact ⟨rfl, (((Below.refl _ _).alloc (Nat.le_refl _) _).trans (b1.mono (by simp)))⟩

/-- As cells2, behind a draw. -/
theorem cells2d {w w1 : World} {a b : Value} {T : TypeId} (hb : Below (w.alloc (.cells #[a, b] T)).drew.heap.size (w.alloc (.cells #[a, b] T)).drew w1) :
    w1.cell? ⟨w.heap.size, 0, none⟩ = some a ∧ w1.cell? ⟨w.heap.size, 1, none⟩ = some b ∧ w1.frozen? ⟨w.heap.size, 0, none⟩ = false ∧ w1.frozen? ⟨w.heap.size, 1, none⟩ = false ∧ w.heap.size < w1.heap.size :=
  cells2 ⟨hb.os, hb.tape, hb.output, hb.size, hb.block⟩

/-- The head of the first loop. -/
def WRel (w : World) (p b a0 : Int) (B1 B2 k : Nat) (lv : Value) (l : List Int) (al i : Value) (wr : World) : Prop :=
  ∃ (j : Nat) (A : List Int) (m a last : Int), j ≤ k ∧ i = .int .i64 j ∧ WInv p b a0 m a last A ∧ (∀ x, j ≤ x → x < k → last ≤ l.getD x 0) ∧ A.length ≤ j ∧ Holds wr B2 A.length al A ∧ Holds wr B1 k lv l ∧
    wr.cell? ⟨w.heap.size, 0, none⟩ = some (.int .i64 m) ∧ wr.cell? ⟨w.heap.size, 1, none⟩ = some (.int .i64 a) ∧ wr.frozen? ⟨w.heap.size, 0, none⟩ = false ∧ wr.frozen? ⟨w.heap.size, 1, none⟩ = false ∧
    Below w.heap.size w wr ∧ B2 ≤ wr.heap.size

/-- What the statement 'next, ok := Allow(..)' leaves. -/
def WCut (wr : World) (M T : Int) (O : Bool) (s13 s14 : Value) (w' : World) : Prop :=
  ∃ N : Nat, s13 = .pointer (some ⟨N, 0, none⟩) ∧ s14 = .bool O ∧ w'.cell? ⟨N, 0, none⟩ = some (.int .i64 M) ∧ w'.cell? ⟨N, 1, none⟩ = some (.int .i64 T) ∧ wr.heap.size ≤ N ∧ N < w'.heap.size ∧ Below wr.heap.size wr w'

theorem Holds.below {w w' : World} {B k : Nat} {v : Value} {l : List Int} (h : Holds w B k v l) (hb : Below w.heap.size w w') : Holds w' B k v l := by
  rcases h with h | ⟨h0, g, cp, h1, h2⟩
  · exact .inl h
  · exact .inr ⟨h0, g, cp, h1, h2.below hb⟩
/-- A store into an older block. -/
theorem owns.setCell {w : World} {B g n cap : Nat} {l : List Int} (h : owns w B g n cap l) {a : Addr} (ha : a.block < B) (u : Value) : owns (w.setCell a u) B g n cap l :=
  ownsRow_setCell_below h ha u
theorem Holds.setCell {w : World} {B k : Nat} {v : Value} {l : List Int} (h : Holds w B k v l) {a : Addr} (ha : a.block < B) (u : Value) : Holds (w.setCell a u) B k v l := by
  rcases h with h | ⟨h0, g, cp, h1, h2⟩
  · exact .inl h
  · exact .inr ⟨h0, g, cp, h1, h2.setCell ha u⟩
theorem Holds.kept {w w' : World} {B k : Nat} {v : Value} {l : List Int} {row : Option Nat} (h : Holds w B k v l) (hg : w.grownBy w' row) (hne : ∀ r, row = some r → v.ownBlock ≠ some r) : Holds w' B k v l := by
  rcases h with h | ⟨h0, g, cp, rfl, h2⟩
  · exact .inl h
  · refine .inr ⟨h0, g, cp, rfl, h2.kept hg ?_⟩
    intro he
    exact hne g he.symm rfl
theorem Holds.alloc {w : World} {B k : Nat} {v : Value} {l : List Int} (h : Holds w B k v l) (o : Obj) : Holds (w.alloc o) B k v l := by
  rcases h with h | ⟨h0, g, cp, h1, h2⟩
  · exact .inl h
  · exact .inr ⟨h0, g, cp, h1, h2.alloc o⟩

theorem Holds.len {w : World} {B k : Nat} {v : Value} {l : List Int} (h : Holds w B k v l) : l.length = k := by
  rcases h with ⟨rfl, _, rfl⟩ | ⟨_, g, cp, _, h⟩
  · rfl
  · exact h.len

theorem Holds.form {w : World} {B k : Nat} {v : Value} {l : List Int} (h : Holds w B k v l) : ∃ x cp, v = .slice x k cp := by
  rcases h with ⟨rfl, rfl, rfl⟩ | ⟨_, g, cp, rfl, _⟩
  · exact ⟨none, 0, rfl⟩
  · exact ⟨_, cp, rfl⟩
theorem Holds.row {w : World} {B k cp : Nat} {x : Option Addr} {l : List Int} (h : Holds w B k (.slice x k cp) l) (hk : 0 < k) : ∃ g, x = some ⟨g, 0, none⟩ ∧ owns w B g k cp l := by
  rcases h with ⟨h0, _, _⟩ | ⟨_, g, cp', hv, h⟩
  · omega
  · cases hv; exact ⟨g, rfl, h⟩

set_option maxHeartbeats 1000000 in
theorem window_main (milli at_ p b : Int) (v : Value) (w : World) (hv : Times w v) (c1 : 1 ≤ p) (c2 : p ≤ 1000) (c3 : 1 ≤ b) (c4 : b ≤ 1000) :
    Calls Try.prog 3 #[.agg #[.int .i64 milli, .int .i64 at_], .int .i64 p, .int .i64 b, v] w fun e w' => e = .returned (.bool true) ∧ Below w.heap.size w w' := by
  go_enter Try.func3, Try.ntmps3
  go_wp2_with fail
  refine (small_any _).mono ?_
  rintro e w1 ⟨rfl, b1⟩
  obtain ⟨k0, k1, f0, f1, hz⟩ := cells2 b1
  have d1 : Below w.heap.size w w1 := (((Below.refl _ _).alloc (Nat.le_refl _) _).trans (b1.mono (by simp)))
  have hv1 := Lib.hid (times_below hv d1)
  clear hv
  go_wp2_with fail
  refine (sorted_any _ _ hv1.out).mono ?_
  rintro e w2 ⟨k, lv, l, rfl, hk, hF, hH, b2⟩
  have d2 : Below w.heap.size w w2 := d1.trans (b2.mono d1.size)
  obtain ⟨hc2, hf2⟩ := bcell b2
  have j0 := (hc2 _ 0 hz).trans k0
  have j1 := (hc2 _ 1 hz).trans k1
  have g0 := (hf2 _ 0 hz).trans f0
  have g1 := (hf2 _ 1 hz).trans f1
  have hz2 := b2.size
  clear hc2 hf2 k0 k1 f0 f1
  have hw20 : w.heap.size < w2.heap.size := by omega
  obtain ⟨x, cp, rfl⟩ := hH.form
  go_wp2
  go_loopw [11, 12] (fun al i wr => WRel w p b (mom at_) w1.heap.size w2.heap.size k (.slice x k cp) l al i wr) (fun _ i _ => k - (intOf i).toNat)
  case atStart =>
    exact ⟨0, [], milli, at_, 0, Nat.zero_le _, rfl, winv_start p b milli at_, fun x _ hx => by have := hF.2 (l.getD x 0) (by rw [getD_of_lt _ _ (by rw [hH.len]; exact hx)]; exact List.getElem_mem _); exact this.1, Nat.le_refl _, .inl ⟨rfl, rfl, rfl⟩, hH, j0, j1, g0, g1, d2, Nat.le_refl _⟩
  case round =>
    obtain ⟨j, A, m, a, last, hj, rfl, hW, hlast, hA, hHA, hHl, j0, j1, g0, g1, dr, hzr⟩ := hrel
    obtain ⟨y, cq, rfl⟩ := hHA.form
    by_cases hlt : j < k
    · obtain ⟨g, rfl, hol⟩ := hHl.row (by omega)
      obtain ⟨t, ht⟩ : ∃ t, l.getD j 0 = t := ⟨_, rfl⟩
      have hct : wr.cell? ⟨g, j, none⟩ = some (.int .i64 t) := by rw [hol.cell j hlt, ht]
      have hlt2 : (j : Int) < (k : Int) := by omega
      have hj0 : (0 : Int) ≤ (j : Int) := by omega
      obtain ⟨M, hM⟩ : ∃ M, aMilli m a p b t = M := ⟨_, rfl⟩
      obtain ⟨T, hT⟩ : ∃ T, aAt a t = T := ⟨_, rfl⟩
      obtain ⟨O, hO⟩ : ∃ O, aOk m a p b t = O := ⟨_, rfl⟩
      have HC := Lib.hid (fun w => allow_at w c1 c3 hM hT hO)
      have n1 := World.new_ne wr _ j0
      have n2 := World.new_ne wr _ j1
      have n3 := World.new_ne wr _ hct
      have hg2 : g < w2.heap.size := by
        obtain ⟨g', he, ho'⟩ := hH.row (by omega)
        cases he; exact ho'.lt.2
      have hB0 : w.heap.size < wr.heap.size := World.block_lt_of_cell? wr _ j0
      have hgl : g < wr.heap.size := World.block_lt_of_cell? wr _ hct
      go_upto_region 9 with fail
      go_cut [13, 14] (fun s13 s14 wx => WCut wr M T O s13 s14 wx)
      case first =>
        go_region_held3 (fun w' => w'.cell? ⟨w.heap.size, 0, none⟩ = some (.int .i64 m) ∧ w'.cell? ⟨w.heap.size, 1, none⟩ = some (.int .i64 a) ∧ w'.cell? ⟨g, j, none⟩ = some (.int .i64 t))
          (go_keep)
          ((go_at_call 9; refine (HC.out _).mono ?_; rintro e w4 ⟨rfl, b4⟩; have z4 := b4.size; simp at z4; have q0 : w4.cell? ⟨w.heap.size, 0, none⟩ = some (.int .i64 m) := cell_later b4 (by go_keep); have q1 : w4.cell? ⟨w.heap.size, 1, none⟩ = some (.int .i64 a) := cell_later b4 (by go_keep); have q2 : w4.cell? ⟨g, j, none⟩ = some (.int .i64 t) := cell_later b4 (by go_keep); (try (have q3 := cells2d b4))))
        · go_wp2_with fail
          go_meet
          case rel => exact ⟨w4.heap.size, rfl, rfl, by go_simp, by go_simp, z4, by simp, (((Below.refl _ _).drew).trans b4).alloc z4 _⟩
        · go_wp2_with fail
          go_meet
          case rel => exact ⟨wr.heap.size, rfl, rfl, by go_simp, by go_simp, Nat.le_refl _, by simp; omega, ((((((Below.refl _ _).alloc (Nat.le_refl _) _).drew).trans (b4.mono (by simp))).setCell (Nat.le_refl _) _).setCell (Nat.le_refl _) _)⟩
      case rest =>
        obtain ⟨N, rfl, rfl, hN0, hN1, hNz, hNs, b5⟩ := hcut
        have e0 := (b5.cell (p := ⟨w.heap.size, 0, none⟩) hB0).trans j0
        have e1 := (b5.cell (p := ⟨w.heap.size, 1, none⟩) hB0).trans j1
        have e2 := (b5.frozen (p := ⟨w.heap.size, 0, none⟩) hB0).trans g0
        have e3 := (b5.frozen (p := ⟨w.heap.size, 1, none⟩) hB0).trans g1
        have e4 := (b5.cell (p := ⟨g, j, none⟩) hgl).trans hct
        have hz5 := b5.size
        have hl1 := (hHl.below b5)
        have hl2 := (hHA.below b5)
        have d5 := dr.trans (b5.mono dr.size)
        have hng : ¬ w.heap.size = g := by have := hol.lt; omega
        have hgn : ¬ g = w.heap.size := by omega
        have hBc : w.heap.size < wc.heap.size := by omega
        have hgc : g < wc.heap.size := by omega
        have hlast' : ∀ x, j + 1 ≤ x → x < k → t ≤ l.getD x 0 := fun x h1 h2 => by
          have hll := hHl.len
          rw [← ht, getD_of_lt _ _ (by omega), getD_of_lt _ _ (by omega)]
          exact List.pairwise_iff_getElem.1 hF.1 j x (by omega) (by omega) (by omega)
        have hts : 0 ≤ t ∧ t ≤ 70368744177664 := by
          have hll := hHl.len
          have := hF.2 (l.getD j 0) (by rw [getD_of_lt _ _ (by omega)]; exact List.getElem_mem _)
          rw [ht] at this; exact this
        have hW' := winv_step c1 c2 c3 c4 hW (t := t) (by have := hlast j (Nat.le_refl _) hlt; rw [ht] at this; exact this) hts.2
        rw [hM, hT, hO] at hW'
        have HW := Lib.hid hW'
        have HL := Lib.hid hlast'
        clear hW' hlast' hW hlast ht hM hT hO HC hHl hHA hol hct j0 j1 g0 g1 n1 n2 n3
        cases O
        · go_wp2
          go_roundw
          case rel => exact ⟨j + 1, A, M, T, t, by omega, by go_num, HW.out, HL.out, by omega, (hl2.setCell (by exact hw20) _).setCell (by exact hw20) _, (hl1.setCell (by exact hz) _).setCell (by exact hz) _, by go_simp, by go_simp, by go_simp, by go_simp, (d5.setCell (Nat.le_refl _) _).setCell (Nat.le_refl _) _, by simp; omega⟩
          case measure => simp [intOf]; omega
        · rcases hl2 with ⟨hq0, hy, hA0⟩ | ⟨hq0, g', cq', hy, hown⟩
          · subst hA0
            cases hy
            go_wp2_with (at_builtin; refine app_nil rfl (.tmp 55) (.tmp 60) rfl w2.heap.size rfl ⟨wc.heap.size, 0, none⟩ 1 1 [t] rfl rfl (one_new _ t _ (by simp)) (by omega) (by omega) (by simp; omega) ?_; intro cap7 w7 hown7 hgr7 hlt7; simp only [World.size_alloc, World.size_setCell] at hown7 hlt7)
            go_roundw
            case rel =>
              refine ⟨j + 1, [t], M, T, t, by omega, by go_num, HW.out, HL.out, by simp, .inr ⟨by simp, _, _, rfl, hown7⟩, (((hl1.setCell (by exact hz) _).setCell (by exact hz) _).alloc _).kept hgr7 (by simp), ?_, ?_, ?_, ?_, ?_, by omega⟩
              · exact hgr7.cell (by go_simp) (by simp)
              · exact hgr7.cell (by go_simp) (by simp)
              · exact (World.frozen?_of_block (hgr7.block w.heap.size (by simp; omega) (by simp))).trans (by go_simp)
              · exact (World.frozen?_of_block (hgr7.block w.heap.size (by simp; omega) (by simp))).trans (by go_simp)
              · exact Below.grown (((d5.setCell (Nat.le_refl _) _).setCell (Nat.le_refl _) _).alloc (by simp; omega) _) hgr7 (by simp; omega) (by simp)
            case measure => simp [intOf]; omega
          · cases hy
            have hg'2 := hown.lt
            have hng' : ¬ w.heap.size = g' := by omega
            have hgg' : ¬ g = g' := by omega
            go_wp2_with (at_builtin; refine app_own rfl (.tmp 55) (.tmp 60) rfl w2.heap.size g' A.length cq A rfl (((hown.setCell (by exact hw20) _).setCell (by exact hw20) _).alloc _) ⟨wc.heap.size, 0, none⟩ 1 1 [t] rfl rfl (one_new _ t _ (by simp)) (by omega) (by simp; omega) ?_; intro g7 cap7 w7 hown7 hgr7 hor7 hlt7)
            have hs7 := hgr7.size
            simp only [World.size_alloc, World.size_setCell] at hs7
            go_roundw
            case rel =>
              refine ⟨j + 1, A ++ [t], M, T, t, by omega, by go_num, HW.out, HL.out, by simp; omega, .inr ⟨by simp, g7, cap7, by simp, by rw [List.length_append]; exact hown7⟩, (((hl1.setCell (by exact hz) _).setCell (by exact hz) _).alloc _).kept hgr7 (by simp [Value.ownBlock]; omega), ?_, ?_, ?_, ?_, ?_, by omega⟩
              · exact hgr7.cell (by go_simp) (by simp; omega)
              · exact hgr7.cell (by go_simp) (by simp; omega)
              · exact (World.frozen?_of_block (hgr7.block w.heap.size (by simp; omega) (by simp; omega))).trans (by go_simp)
              · exact (World.frozen?_of_block (hgr7.block w.heap.size (by simp; omega) (by simp; omega))).trans (by go_simp)
              · exact Below.grown (((d5.setCell (Nat.le_refl _) _).setCell (Nat.le_refl _) _).alloc (by simp; omega) _) hgr7 (by simp; omega) (by simp; omega)
            case measure => simp [intOf]; omega
    · obtain ⟨wo, hwo⟩ : ∃ wo : World, wo = wr := ⟨_, rfl⟩
      subst hwo
      have H2 := Lib.hid hW.two
      have HA := Lib.hid hW.asc
      have HP := Lib.hid hW.pos
      have HU := Lib.hid (fun i hi => Int.le_trans (hW.up i hi) hW.hi)
      clear hW hlast hHl j0 j1 g0 g1
      go_wp2
      go_loopw [15] (fun i w' => ∃ x : Nat, x ≤ A.length ∧ i = .int .i64 x ∧ Below wo.heap.size wo w') (fun i _ => A.length - (intOf i).toNat)
      case atStart => exact ⟨0, Nat.zero_le _, rfl, Below.refl _ _⟩
      case round =>
        obtain ⟨i, hi, rfl, hb1⟩ := hrel
        by_cases hiq : i < A.length
        · obtain ⟨g, rfl, hown⟩ := hHA.row (by omega)
          obtain ⟨wi, hwi⟩ : ∃ wi : World, wi = wr := ⟨_, rfl⟩
          subst hwi
          go_wp2
          go_loopw [16] (fun z w' => ∃ x : Nat, i ≤ x ∧ x ≤ A.length ∧ z = .int .i64 x ∧ Below wo.heap.size wo w') (fun z _ => A.length - (intOf z).toNat)
          case atStart => exact ⟨i, Nat.le_refl _, by omega, rfl, hb1⟩
          case round =>
            obtain ⟨z, hiz, hzq, rfl, hb2⟩ := hrel
            by_cases hzl : z < A.length
            · obtain ⟨X, hX⟩ : ∃ X, A.getD i 0 = X := ⟨_, rfl⟩
              obtain ⟨Z, hZ⟩ : ∃ Z, A.getD z 0 = Z := ⟨_, rfl⟩
              have hown2 := hown.below hb2
              have q1 : wr.cell? ⟨g, i, none⟩ = some (.int .i64 X) := by rw [hown2.cell i hiq, hX]
              have q2 : wr.cell? ⟨g, z, none⟩ = some (.int .i64 Z) := by rw [hown2.cell z hzl, hZ]
              have r1 : X ≤ Z := by rw [← hX, ← hZ]; exact HA.out i z hiz hzl
              have r2 : 0 ≤ X := by rw [← hX]; exact HP.out i hiq
              have r3 : Z ≤ 70368744177664 := by rw [← hZ]; exact HU.out z hzl
              have r4 := pair_ok (H2.out i z hiz hzl)
              rw [hX, hZ] at r4
              have s1 : 0 ≤ p * ((Z - X) / 3600000) := Int.mul_nonneg (by omega) (by omega)
              have s2 : p * ((Z - X) / 3600000) ≤ 1000 * 70368744177664 := Int.mul_le_mul c2 (by omega) (by omega) (by omega)
              have s3 : 0 ≤ p * ((Z - X) % 3600000) := Int.mul_nonneg (by omega) (by omega)
              have s4 : p * ((Z - X) % 3600000) ≤ 1000 * 3600000 := Int.mul_le_mul c2 (by omega) (by omega) (by omega)
              have i0 : (0 : Int) ≤ (i : Int) := by omega
              have i1 : (i : Int) < (A.length : Int) := by omega
              have z0 : (0 : Int) ≤ (z : Int) := by omega
              have z1 : (z : Int) < (A.length : Int) := by omega
              have hA40 : (A.length : Int) ≤ 40 := by omega
              clear hX hZ hown2
              go_wp2
              go_quiet (fail)
              go_wp2
              go_roundw
              case rel => exact ⟨z + 1, by omega, by omega, by go_num, below_drewN hb2 _⟩
              case measure => simp [intOf]; omega
            · go_wp2
              go_roundw
              case rel => exact ⟨i + 1, by omega, by go_num, hb2⟩
              case measure => simp [intOf]; omega
        · go_wp2
          go_ret
          exact ⟨rfl, dr.trans (hb1.mono dr.size)⟩

theorem window_any (milli at_ p b : Int) (v : Value) (w : World) (hv : Times w v) :
    Calls Try.prog 3 #[.agg #[.int .i64 milli, .int .i64 at_], .int .i64 p, .int .i64 b, v] w fun e w' => e = .returned (.bool true) ∧ Below w.heap.size w w' := by
  by_cases h : 1 ≤ p ∧ p ≤ 1000 ∧ 1 ≤ b ∧ b ≤ 1000
  · obtain ⟨c1, c2, c3, c4⟩ := h
    exact window_main _ _ _ _ _ _ hv c1 c2 c3 c4
  · exact window_out _ _ _ _ _ _ h
end Go.Proofs.Ytepjjfaakloedaa
