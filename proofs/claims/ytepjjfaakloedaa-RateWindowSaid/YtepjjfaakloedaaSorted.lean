/- The helper 'sorted': it returns at most 40 times, in ascending order, within the bounds. -/
import Derived.Test.YtepjjfaakloedaaInts
namespace Go.Proofs.Ytepjjfaakloedaa
open Go.RowKit

/-- A list of times as 'sorted' makes it. -/
def Fine (l : List Int) : Prop := l.Pairwise (· ≤ ·) ∧ ∀ x ∈ l, 0 ≤ x ∧ x ≤ 70368744177664

theorem fine_ins {l : List Int} (h : Fine l) {j : Nat} {t : Int} (h0 : 0 ≤ t) (h1 : t ≤ 70368744177664) (hj : j ≤ l.length) (hlo : j = 0 ∨ l.getD (j - 1) 0 ≤ t) (hhi : ∀ i, j ≤ i → i < l.length → t < l.getD i 0) :
    Fine ((l.take j ++ [t]) ++ l.drop j) := by
  obtain ⟨hs, hb⟩ := h
  have hget : ∀ i, i < l.length → l.getD i 0 ∈ l := fun i hi => by rw [getD_of_lt _ _ hi]; exact List.getElem_mem hi
  have hd : ∀ y ∈ l.drop j, t < y := fun y hy => by
    obtain ⟨i, hi, rfl⟩ := List.mem_iff_getElem.1 hy
    have hi' : j + i < l.length := by simp at hi; omega
    have := hhi (j + i) (by omega) hi'
    rw [getD_of_lt _ _ hi'] at this
    simpa using this
  have ht : ∀ x ∈ l.take j, x ≤ t := fun x hx => by
    obtain ⟨i, hi, rfl⟩ := List.mem_iff_getElem.1 hx
    have hij : i < j := by simp at hi; omega
    rcases hlo with h | h
    · omega
    · have hj1 : j - 1 < l.length := by omega
      have hle : l[i]'(by omega) ≤ l[j - 1] := by
        rcases Nat.lt_or_ge i (j - 1) with hlt | hge
        · exact List.pairwise_iff_getElem.1 hs i (j - 1) (by omega) hj1 hlt
        · have : i = j - 1 := by omega
          subst this; exact Int.le_refl _
      rw [getD_of_lt _ _ hj1] at h
      simp only [List.getElem_take]
      omega
  refine ⟨?_, ?_⟩
  · rw [List.pairwise_append, List.pairwise_append]
    refine ⟨⟨hs.sublist (List.take_sublist _ _), by simp, fun a ha b hb' => by simp at hb'; subst hb'; exact ht a ha⟩, hs.sublist (List.drop_sublist _ _), fun a ha b hb' => ?_⟩
    have h2 := hd b hb'
    rcases List.mem_append.1 ha with ha | ha
    · have := ht a ha; omega
    · simp at ha; subst ha; omega
  · intro x hx
    rcases List.mem_append.1 hx with hx | hx
    · rcases List.mem_append.1 hx with hx | hx
      · exact hb x (List.mem_of_mem_take hx)
      · simp at hx; subst hx; exact ⟨h0, h1⟩
    · exact hb x (List.mem_of_mem_drop hx)

/-- What the slice v of the call's own holds: nil at first, then a row of its own. -/
def Holds (w : World) (B k : Nat) (v : Value) (l : List Int) : Prop :=
  (k = 0 ∧ v = .slice none 0 0 ∧ l = []) ∨ (0 < k ∧ ∃ g cap, v = .slice (some ⟨g, 0, none⟩) k cap ∧ owns w B g k cap l)

/-- The head of the outer loop. -/
def SRel (w : World) (out i : Value) (wr : World) : Prop :=
  ∃ (k : Nat) (l : List Int), k ≤ 40 ∧ i = .int .i64 k ∧ Fine l ∧ Holds wr w.heap.size k out l ∧ Below w.heap.size w wr ∧ w.heap.size ≤ wr.heap.size

/-- The round's end: the time has been put in its place. -/
theorem srel_close {w wr w1 w2 w3 w4 : World} {k j m g2 g3 g4 cp4 : Nat} {l r : List Int} {t : Int} (hk1 : k < 40) (hb : Below w.heap.size w wr) (hz : w.heap.size ≤ wr.heap.size)
    (hF : Hid (Fine ((l.take j ++ [t]) ++ r))) (hm : j + m = k)
    (hgr1 : (wr.alloc (.cells #[] 3)).grownBy w1 (some wr.heap.size))
    (hgr2 : (w1.alloc (.cells #[] 3)).grownBy w2 (some w1.heap.size)) (hor2 : g2 = w1.heap.size ∨ g2 = w1.heap.size + 1)
    (hgr3 : (w2.alloc (.cells #[.int .i64 t] 3)).grownBy w3 (some g2)) (hor3 : g3 = g2 ∨ g3 = w2.heap.size + 1)
    (hown4 : owns w4 w.heap.size g4 (j + 1 + m) cp4 ((l.take j ++ [t]) ++ r)) (hgr4 : w3.grownBy w4 (some g3)) :
    SRel w (.slice (some ⟨g4, 0, none⟩) (j + 1 + m) cp4) (.int .i64 ((k : Int) + 1)) w4 := by
  have hs1 := hgr1.size
  have hs2 := hgr2.size
  have hs3 := hgr3.size
  have hs4 := hgr4.size
  simp only [World.size_alloc] at hs1 hs2 hs3
  have e1 := grownBy_below (hb.alloc hz (.cells #[] 3)) hgr1 (by simp; omega) hz
  have e2 := grownBy_below (e1.alloc (by omega) (.cells #[] 3)) hgr2 (by simp; omega) (by omega)
  have e3 := grownBy_below (e2.alloc (by omega) (.cells #[.int .i64 t] 3)) hgr3 (by simp; omega) (by omega)
  have e4 := grownBy_below e3 hgr4 (by omega) (by omega)
  have e5 : j + 1 + m = k + 1 := by omega
  rw [e5] at hown4 ⊢
  exact ⟨k + 1, _, by omega, by go_num, hF, .inr ⟨by omega, g4, cp4, rfl, hown4⟩, e4, by omega⟩

/-- What 'sorted' leaves. -/
def SPost (w : World) (e : Ending) (w' : World) : Prop := ∃ (k : Nat) (v : Value) (l : List Int), e = .returned v ∧ k ≤ 40 ∧ Fine l ∧ Holds w' w.heap.size k v l ∧ Below w.heap.size w w'

set_option maxHeartbeats 1000000 in
theorem sorted_some (b off len cap : Nat) (zs : List Int) (w : World) (hlen : len ≤ 9223372036854775807)
    (hcell : ∀ j, j < len → w.cell? ⟨b, off + j, none⟩ = some (.int .i64 (zs.getD j 0))) (hbB : b < w.heap.size) :
    Calls Try.prog 8 #[.slice (some ⟨b, off, none⟩) len cap] w (SPost w) := by
  go_enter Try.func8, Try.ntmps8
  go_wp2
  go_loopw [3, 4] (fun out i wr => SRel w out i wr) (fun _ i _ => len - (intOf i).toNat)
  case atStart => exact ⟨0, [], by omega, rfl, ⟨List.Pairwise.nil, by simp⟩, .inl ⟨rfl, rfl, rfl⟩, Below.refl _ _, Nat.le_refl _⟩
  case round =>
    obtain ⟨k, l, hk, rfl, hF, hH, hb, hz⟩ := hrel
    by_cases hgo : k < len ∧ k < 40
    · obtain ⟨hkl, hk40⟩ := hgo
      obtain ⟨z, hzv⟩ : ∃ z, zs.getD k 0 = z := ⟨_, rfl⟩
      have hcx : wr.cell? ⟨b, off + k, none⟩ = some (.int .i64 z) := by rw [hb.cell (by exact hbB), hcell k hkl, hzv]
      obtain ⟨t1, ht1⟩ : ∃ t1, (if z < 0 then 0 else z) = t1 := ⟨_, rfl⟩
      obtain ⟨t, ht⟩ : ∃ t, (if 70368744177664 < t1 then 70368744177664 else t1) = t := ⟨_, rfl⟩
      have hb0 : 0 ≤ t := by split at ht1 <;> split at ht <;> omega
      have hb1 : t ≤ 70368744177664 := by split at ht1 <;> split at ht <;> omega
      clear hzv
      rcases hH with ⟨hk0, rfl, rfl⟩ | ⟨hk0, g, cp, rfl, hown⟩
      · have hk1 : k ≤ 0 := by omega
        clear hk0
        go_wp2
        go_loop [6] (fun a => a = .int .i64 0) (fun _ => 0)
        case atStart => rfl
        case round =>
          subst hrel
          have HO : Hid (∀ o, owns (((wr.alloc (.cells #[] 3)).alloc (.cells #[] 3)).alloc o) w.heap.size (wr.heap.size + 1) 0 0 []) := fun o => (empty_row (wr.alloc (.cells #[] 3)) w.heap.size (wr.heap.size + 1) (by simp; omega) (by simp)).alloc o
          go_wp2_with (first
            | (at_builtin; refine app_own rfl (.tmp 48) (.tmp 50) rfl w.heap.size (wr.heap.size + 1) 0 0 [] rfl (HO.out _) ⟨wr.heap.size + 1 + 1, 0, none⟩ 1 1 [t] rfl rfl (one_new _ t _ (by simp)) (by omega) (by simp; omega) ?_; intro g1 cp1 w1 hown1 hgr1 hor1 hlt1; simp only [Nat.zero_add, List.nil_append] at hown1)
            | (at_builtin; refine app_own rfl (.tmp 51) (.tmp 52) rfl w.heap.size g1 1 cp1 [t] rfl hown1 ⟨wr.heap.size, 0, none⟩ 0 0 [] rfl rfl (fun j hj => by omega) (by omega) (by have := hgr1.size; simp at this; omega) ?_; intro g2 cp2 w2 hown2 hgr2 hor2 hlt2; simp only [Nat.add_zero, List.append_nil] at hown2))
          go_roundw
          case rel =>
            refine ⟨k + 1, [t], by omega, by go_num, ⟨List.pairwise_singleton _ _, by simp; omega⟩, .inr ⟨by omega, g2, cp2, ?_, ?_⟩, ?_, ?_⟩
            · obtain rfl : k = 0 := by omega
              rfl
            · obtain rfl : k = 0 := by omega
              exact hown2
            · have e1 : Below w.heap.size w (((wr.alloc (.cells #[] 3)).alloc (.cells #[] 3)).alloc (.cells #[.int .i64 t] 3)) := ((hb.alloc hz _).alloc (by simp; omega) _).alloc (by simp; omega) _
              have e2 := grownBy_below e1 hgr1 (by simp; omega) (by omega)
              have e3 := hown1.lt
              exact grownBy_below e2 hgr2 (by omega) e3.1
            · have e3 := hown2.lt; omega
          case measure => simp [intOf]; omega
      · have hll := hown.len
        have HK := Lib.hid hll
        clear hll
        go_wp2
        go_loop [6] (fun a => ∃ j : Nat, j ≤ k ∧ a = .int .i64 j ∧ Hid (∀ i, j ≤ i → i < k → t < l.getD i 0)) (fun a => (intOf a).toNat)
        case atStart => exact ⟨k, Nat.le_refl _, rfl, fun i h1 h2 => by omega⟩
        case round =>
          obtain ⟨j, hj, rfl, hhi⟩ := hrel
          have HF : Hid (Fine ((l.take j ++ [t]) ++ l.drop j)) ∨ (0 < j ∧ t < l.getD (j - 1) 0) := by
            by_cases h : 0 < j ∧ t < l.getD (j - 1) 0
            · exact .inr h
            · refine .inl (fine_ins hF hb0 hb1 (by rw [HK.out]; exact hj) (by omega) (fun i h1 h2 => hhi i h1 (by rw [HK.out] at h2; exact h2)))
          by_cases hj0 : 0 < j
          · obtain ⟨x, hx⟩ : ∃ x, l.getD (j - 1) 0 = x := ⟨_, rfl⟩
            have hcj : wr.cell? ⟨g, j - 1, none⟩ = some (.int .i64 x) := by rw [hown.cell (j - 1) (by omega), hx]
            rw [hx] at HF
            have HX := Lib.hid hx
            clear hx
            by_cases hxt : t < x
            · clear HF
              go_wp2
              go_round
              case rel =>
                refine ⟨j - 1, by omega, by go_num, fun i h1 h2 => ?_⟩
                rcases Nat.lt_or_ge i j with h | h
                · obtain rfl : i = j - 1 := by omega
                  rw [HX.out]; exact hxt
                · exact hhi i h h2
              case measure => simp [intOf]; omega
            · have hF0 : Hid (Fine ((l.take j ++ [t]) ++ l.drop j)) := by
                rcases HF with HF | HF
                · exact HF
                · exact absurd HF.2 hxt
              clear HF
              have hcp := hown.cap
              by_cases hjc : j < cp
              · have h10 : wr.heap.size ≠ g := by have := hown.lt; omega
                go_wp2_with (first
                  | (at_builtin; refine app_own rfl (.tmp 39) (.tmp 42) rfl w.heap.size wr.heap.size 0 0 [] rfl (empty_row wr _ _ hz rfl) ⟨g, j, none⟩ (k - j) _ (l.drop j) rfl (by rw [List.length_drop, HK.out]) (owns_at (hown.alloc _) j (k - j) (by omega) _ (fun i _ => getD_drop l j i)) (by omega) (by simp; omega) ?_; intro g1 cp1 w1 hown1 hgr1 hor1 hlt1; simp only [Nat.zero_add, List.nil_append] at hown1; have hw1 := hgr1.size; simp only [World.size_alloc] at hw1 hor1; have ho1 := (hown.alloc (.cells #[] 3)).kept hgr1 (by simp; omega))
                  | (at_builtin; refine app_own rfl (.tmp 44) (.tmp 47) rfl w.heap.size w1.heap.size 0 0 [] rfl (empty_row w1 _ _ (by omega) rfl) ⟨g, 0, none⟩ j _ (l.take j) rfl (by rw [List.length_take, HK.out]; omega) (owns_at (ho1.alloc _) 0 j (by omega) _ (fun i h => by rw [getD_take _ _ _ h, Nat.zero_add])) (by omega) (by simp; omega) ?_; intro g2 cp2 w2 hown2 hgr2 hor2 hlt2; simp only [Nat.zero_add, List.nil_append] at hown2; have hw2 := hgr2.size; simp only [World.size_alloc] at hw2 hor2; have ho2 := (hown1.alloc (.cells #[] 3)).kept hgr2 (by simp; omega))
                  | (at_builtin; refine app_own rfl (.tmp 48) (.tmp 50) rfl w.heap.size g2 j cp2 (l.take j) rfl (hown2.alloc _) ⟨w2.heap.size, 0, none⟩ 1 1 [t] rfl rfl (one_new _ t _ rfl) (by omega) (by simp; omega) ?_; intro g3 cp3 w3 hown3 hgr3 hor3 hlt3; have hw3 := hgr3.size; simp only [World.size_alloc] at hw3 hor3; have ho3 := (ho2.alloc (.cells #[.int .i64 t] 3)).kept hgr3 (by simp; omega))
                  | (at_builtin; refine app_own rfl (.tmp 51) (.tmp 52) rfl w.heap.size g3 (j + 1) cp3 _ rfl hown3 ⟨g1, 0, none⟩ (k - j) _ (l.drop j) rfl (by rw [List.length_drop, HK.out]) (owns_at ho3 0 (k - j) (by omega) _ (fun i _ => by rw [Nat.zero_add])) (by omega) (by omega) ?_; intro g4 cp4 w4 hown4 hgr4 hor4 hlt4))
                go_roundw
                case rel => exact srel_close hk40 hb hz hF0 (by omega) hgr1 hgr2 hor2 hgr3 hor3 hown4 hgr4
                case measure => simp [intOf]; omega
              · obtain rfl : j = k := by omega
                obtain rfl : j = cp := by omega
                have hF1 : Hid (Fine ((l.take j ++ [t]) ++ [])) := by
                  have h : l.drop j = [] := List.drop_eq_nil_of_le (by rw [HK.out]; exact Nat.le_refl _)
                  rw [h] at hF0; exact hF0
                have h10 : wr.heap.size ≠ g := by have := hown.lt; omega
                go_wp2_with (first
                  | (at_builtin; refine app_own rfl (.tmp 39) (.tmp 42) rfl w.heap.size wr.heap.size 0 0 [] rfl (empty_row wr _ _ hz rfl) ⟨g, 0, none⟩ 0 _ [] rfl rfl (fun i hi => by omega) (by omega) (by simp; omega) ?_; intro g1 cp1 w1 hown1 hgr1 hor1 hlt1; simp only [Nat.zero_add, List.nil_append] at hown1; have hw1 := hgr1.size; simp only [World.size_alloc] at hw1 hor1; have ho1 := (hown.alloc (.cells #[] 3)).kept hgr1 (by simp; omega))
                  | (at_builtin; refine app_own rfl (.tmp 44) (.tmp 47) rfl w.heap.size w1.heap.size 0 0 [] rfl (empty_row w1 _ _ (by omega) rfl) ⟨g, 0, none⟩ j _ (l.take j) rfl (by rw [List.length_take, HK.out]; omega) (owns_at (ho1.alloc _) 0 j (by omega) _ (fun i h => by rw [getD_take _ _ _ h, Nat.zero_add])) (by omega) (by simp; omega) ?_; intro g2 cp2 w2 hown2 hgr2 hor2 hlt2; simp only [Nat.zero_add, List.nil_append] at hown2; have hw2 := hgr2.size; simp only [World.size_alloc] at hw2 hor2; have ho2 := (hown1.alloc (.cells #[] 3)).kept hgr2 (by simp; omega))
                  | (at_builtin; refine app_own rfl (.tmp 48) (.tmp 50) rfl w.heap.size g2 j cp2 (l.take j) rfl (hown2.alloc _) ⟨w2.heap.size, 0, none⟩ 1 1 [t] rfl rfl (one_new _ t _ rfl) (by omega) (by simp; omega) ?_; intro g3 cp3 w3 hown3 hgr3 hor3 hlt3; have hw3 := hgr3.size; simp only [World.size_alloc] at hw3 hor3; have ho3 := (ho2.alloc (.cells #[.int .i64 t] 3)).kept hgr3 (by simp; omega))
                  | (at_builtin; refine app_own rfl (.tmp 51) (.tmp 52) rfl w.heap.size g3 (j + 1) cp3 _ rfl hown3 ⟨g1, 0, none⟩ 0 _ [] rfl rfl (owns_at ho3 0 0 (by omega) _ (fun i _ => by rw [Nat.zero_add])) (by omega) (by omega) ?_; intro g4 cp4 w4 hown4 hgr4 hor4 hlt4))
                go_roundw
                case rel => exact srel_close hk40 hb hz hF1 (by omega) hgr1 hgr2 hor2 hgr3 hor3 hown4 hgr4
                case measure => simp [intOf]; omega
          · have hF0 : Hid (Fine ((l.take j ++ [t]) ++ l.drop j)) := by
              rcases HF with HF | HF
              · exact HF
              · exact absurd HF.1 hj0
            clear HF
            have hcp := hown.cap
            have hjc : j < cp := by omega
            have h10 : wr.heap.size ≠ g := by have := hown.lt; omega
            go_wp2_with (first
              | (at_builtin; refine app_own rfl (.tmp 39) (.tmp 42) rfl w.heap.size wr.heap.size 0 0 [] rfl (empty_row wr _ _ hz rfl) ⟨g, j, none⟩ (k - j) _ (l.drop j) rfl (by rw [List.length_drop, HK.out]) (owns_at (hown.alloc _) j (k - j) (by omega) _ (fun i _ => getD_drop l j i)) (by omega) (by simp; omega) ?_; intro g1 cp1 w1 hown1 hgr1 hor1 hlt1; simp only [Nat.zero_add, List.nil_append] at hown1; have hw1 := hgr1.size; simp only [World.size_alloc] at hw1 hor1; have ho1 := (hown.alloc (.cells #[] 3)).kept hgr1 (by simp; omega))
              | (at_builtin; refine app_own rfl (.tmp 44) (.tmp 47) rfl w.heap.size w1.heap.size 0 0 [] rfl (empty_row w1 _ _ (by omega) rfl) ⟨g, 0, none⟩ j _ (l.take j) rfl (by rw [List.length_take, HK.out]; omega) (owns_at (ho1.alloc _) 0 j (by omega) _ (fun i h => by rw [getD_take _ _ _ h, Nat.zero_add])) (by omega) (by simp; omega) ?_; intro g2 cp2 w2 hown2 hgr2 hor2 hlt2; simp only [Nat.zero_add, List.nil_append] at hown2; have hw2 := hgr2.size; simp only [World.size_alloc] at hw2 hor2; have ho2 := (hown1.alloc (.cells #[] 3)).kept hgr2 (by simp; omega))
              | (at_builtin; refine app_own rfl (.tmp 48) (.tmp 50) rfl w.heap.size g2 j cp2 (l.take j) rfl (hown2.alloc _) ⟨w2.heap.size, 0, none⟩ 1 1 [t] rfl rfl (one_new _ t _ rfl) (by omega) (by simp; omega) ?_; intro g3 cp3 w3 hown3 hgr3 hor3 hlt3; have hw3 := hgr3.size; simp only [World.size_alloc] at hw3 hor3; have ho3 := (ho2.alloc (.cells #[.int .i64 t] 3)).kept hgr3 (by simp; omega))
              | (at_builtin; refine app_own rfl (.tmp 51) (.tmp 52) rfl w.heap.size g3 (j + 1) cp3 _ rfl hown3 ⟨g1, 0, none⟩ (k - j) _ (l.drop j) rfl (by rw [List.length_drop, HK.out]) (owns_at ho3 0 (k - j) (by omega) _ (fun i _ => by rw [Nat.zero_add])) (by omega) (by omega) ?_; intro g4 cp4 w4 hown4 hgr4 hor4 hlt4))
            go_roundw
            case rel => exact srel_close hk40 hb hz hF0 (by omega) hgr1 hgr2 hor2 hgr3 hor3 hown4 hgr4
            case measure => simp [intOf]; omega
    · go_wp2
      all_goals
        go_ret
        exact ⟨k, u3, l, rfl, hk, hF, hH, hb⟩

theorem sorted_none (x : Option Addr) (cap : Nat) (w : World) :
    Calls Try.prog 8 #[.slice x 0 cap] w (SPost w) := by
  go_enter Try.func8, Try.ntmps8
  go_wp2
  go_loop [3, 4] (fun v a => v = .slice none 0 0 ∧ a = .int .i64 0) (fun _ _ => 0)
  case atStart => exact ⟨rfl, rfl⟩
  case round =>
    obtain ⟨rfl, rfl⟩ := hrel
    go_wp2
    go_ret
    exact ⟨0, .slice none 0 0, [], rfl, by omega, ⟨List.Pairwise.nil, by simp⟩, .inl ⟨rfl, rfl, rfl⟩, Below.refl _ _⟩

/-- What the argument is, in the world of the call. -/
def Times (w : World) (v : Value) : Prop :=
  (∃ x cap, v = .slice x 0 cap) ∨ ∃ (b off len cap : Nat) (zs : List Int), v = .slice (some ⟨b, off, none⟩) len cap ∧ len ≤ 9223372036854775807 ∧ (∀ j, j < len → w.cell? ⟨b, off + j, none⟩ = some (.int .i64 (zs.getD j 0))) ∧ b < w.heap.size

theorem sorted_any (v : Value) (w : World) (h : Times w v) : Calls Try.prog 8 #[v] w (SPost w) := by
  rcases h with ⟨x, cap, rfl⟩ | ⟨b, off, len, cap, zs, rfl, h1, h2, h3⟩
  · exact sorted_none x cap w
  · exact sorted_some b off len cap zs w h1 h2 h3
end Go.Proofs.Ytepjjfaakloedaa
