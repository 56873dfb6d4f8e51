/- The reference's reader: lists. -/
import Derived.Test.YtonfkmoocgpleaaDoorRefText
import Derived.Test.YtonfkmoocgpleaaDoorElems2
namespace Go.Proofs.YtonfkmoocgpleaaDoor
open Go.RowKit

/-- What a method for lists leaves. -/
def LPost {α : Type} (enc : α → Value) (T : TypeId) (w : World) (p : Nat) (b : Bool) (res : Option (List α × List UInt8)) (e : Ending) (w' : World) : Prop :=
  Only p w w' ∧ match res with
  | some (vs, rest) => (∃ v, e = .returned v ∧ w'.ownsRow w.heap.size T 1 v vs.length (vs.map enc)) ∧ ∃ r', r'.data.toList = rest ∧ RAt 55 w' p r' b
  | none => e = .returned (.slice none 0 0) ∧ RAt 55 w' p ⟨#[]⟩ true
theorem lNone {α : Type} {enc : α → Value} {T : TypeId} {w w' : World} {p : Nat} {b : Bool} {res : Option (List α × List UInt8)} (hres : res = none) (ho : Only p w w') (hr : RAt 55 w' p ⟨#[]⟩ true) : LPost enc T w p b res (.returned (.slice none 0 0)) w' := by
  subst hres; exact ⟨ho, rfl, hr⟩
theorem lSome {α : Type} {enc : α → Value} {T : TypeId} {w w' : World} {p : Nat} {b : Bool} {res : Option (List α × List UInt8)} {vs : List α} {rest : List UInt8} {v : Value} {r' : ByteArray} (hres : res = some (vs, rest)) (ho : Only p w w') (hown : w'.ownsRow w.heap.size T 1 v vs.length (vs.map enc)) (hr' : r'.data.toList = rest) (hr : RAt 55 w' p r' b) : LPost enc T w p b res (.returned v) w' := by
  subst hres; exact ⟨ho, ⟨v, rfl, hown⟩, r', hr', hr⟩
/-- The loop's state where the reader has not failed. -/
def Goes {α : Type} (one : List UInt8 → Option (α × List UInt8)) (v : Nat) (t : List UInt8) (k : Nat) (pre : List α) (cur : List UInt8) : Prop := ∃ m, v = k + m ∧ elemsP one v t = (elemsP one m cur).map fun y => (pre ++ y.1, y.2)
theorem goes_start {α : Type} (one : List UInt8 → Option (α × List UInt8)) (v : Nat) (t : List UInt8) : Goes one v t 0 [] t := ⟨v, by omega, by cases elemsP one v t <;> simp⟩
theorem goes_next {α : Type} {one : List UInt8 → Option (α × List UInt8)} {v k : Nat} {t l rest : List UInt8} {pre : List α} {x : α} (h : Goes one v t k pre l) (hk : k < v) (h1 : one l = some (x, rest)) : Goes one v t (k + 1) (pre ++ [x]) rest := by
  obtain ⟨m, hm, h⟩ := h
  obtain ⟨m, rfl⟩ : ∃ m', m = m' + 1 := ⟨m - 1, by omega⟩
  exact ⟨m, by omega, elems_more h h1⟩
theorem goes_fail {α : Type} {one : List UInt8 → Option (α × List UInt8)} {v k : Nat} {t l : List UInt8} {pre : List α} (h : Goes one v t k pre l) (hk : k < v) (h1 : one l = none) : elemsP one v t = none := by
  obtain ⟨m, hm, h⟩ := h
  obtain ⟨m, rfl⟩ : ∃ m', m = m' + 1 := ⟨m - 1, by omega⟩
  exact elems_fail h h1
theorem goes_end {α : Type} {one : List UInt8 → Option (α × List UInt8)} {v k : Nat} {t l : List UInt8} {pre : List α} (h : Goes one v t k pre l) (hk : ¬ k < v) : elemsP one v t = some (pre, l) := by
  obtain ⟨m, hm, h⟩ := h
  obtain rfl : m = 0 := by omega
  exact elems_end h

set_option maxRecDepth 100000 in
set_option maxHeartbeats 1000000 in
theorem fNums_any (w : World) (p : Nat) (r : ByteArray) (b : Bool) (h : RAt 55 w p r b) (hb : b = true → r.data.toList = []) (hrz : r.size ≤ 1000000000) :
    Calls Tryd.prog 31 #[.pointer (some ⟨p, 0, none⟩)] w (LPost (Value.int .i64) 3 w p b (listP intP r.data.toList)) := by
  obtain ⟨i0, hi, hz0, hz1, hz2⟩ := info_parts infoInt
  obtain ⟨res, hres0⟩ : ∃ res, res = listP intP r.data.toList := ⟨_, rfl⟩
  rw [← hres0]
  have HN := Lib.hid (number_read w p r b 91 (by decide) (by decide) h hrz)
  have hp := h.lt
  cases hnp : numP 9223372036854775807 91 r.data.toList with
  | none =>
    have hres : res = none := by rw [hres0]; unfold listP; rw [hnp]
    rw [hnp] at HN
    have HR := Lib.hid hres
    clear hres hres0 hnp hb
    go_enter Tryd.func31, Tryd.ntmps31
    go_wp2_with (go_at_call 47; refine HN.out.mono ?_)
    rintro e w1 ⟨o1, rfl, g1⟩
    have c1 := g1.cell1
    go_wp2
    go_loop [4, 5] (fun lv iv => ∃ k : Nat, iv = .int .i64 k ∧ lv = .slice none 0 0) (fun _ iv => 0 - (intOf iv).toNat)
    case atStart => exact ⟨0, rfl, rfl⟩
    case round =>
      obtain ⟨k, rfl, rfl⟩ := hrel
      go_wp2
      go_ret
      exact lNone HR.out o1 g1
  | some vr =>
    obtain ⟨v, t⟩ := vr
    have hvl := numP_le hnp
    have hls := numP_less hnp
    have hbf : b = false := by
      cases b
      · rfl
      · have := hb rfl; rw [this] at hls; simp at hls
    subst hbf
    rw [hnp] at HN
    have hlst : res = closeP (elemsP intP v t) := by rw [hres0]; unfold listP; rw [hnp]
    have htl : t.length ≤ 1000000000 := by
      have : r.data.toList.length = r.size := rfl
      omega
    have HLS := Lib.hid hlst
    clear hres0 hnp hb hlst hls
    go_enter Tryd.func31, Tryd.ntmps31
    go_wp2_with (go_at_call 47; refine HN.out.mono ?_)
    rintro e w1 ⟨o1, rfl, r2, hr2, g2⟩
    have hzr2 : r2.size = t.length := by show r2.data.toList.length = _; rw [hr2]
    have hstart : Hid (Goes intP v t 0 [] r2.data.toList) := by
      show Goes _ _ _ _ _ _
      rw [hr2]; exact goes_start _ _ _
    clear hr2
    go_wp2
    go_loopw [4, 5] (fun lv iv wr => ∃ (k : Nat) (pre : List Int) (cur : ByteArray) (bad : Bool), iv = .int .i64 k ∧ k ≤ v ∧ wr.ownsRow w.heap.size 3 1 lv pre.length (pre.map (Value.int .i64)) ∧ RAt 55 wr p cur bad ∧ Only p w wr ∧
      (bad = false → Hid (Goes intP v t k pre cur.data.toList) ∧ cur.size + pre.length ≤ 1000000000) ∧ (bad = true → Hid (elemsP intP v t = none ∧ cur = ⟨#[]⟩))) (fun _ iv _ => v - (intOf iv).toNat)
    case atStart => exact ⟨0, [], r2, false, rfl, Nat.zero_le _, World.ownsRow_nil _ _ _ _, g2, o1, fun _ => ⟨hstart, by simp; omega⟩, fun h => by cases h⟩
    case round =>
      clear hstart hzr2
      obtain ⟨k, pre, cur, bad, rfl, hkv, hown, g, o, hgood, hbad⟩ := hrel
      have c1 := g.cell1
      cases bad
      · obtain ⟨hgo, hcz⟩ := hgood rfl
        clear hgood hbad
        by_cases hk : k < v
        · have hki : (k : Int) < v := by omega
          have hone := fInt_any wr p cur false g (by omega)
          cases hop : intP cur.data.toList with
          | none =>
            have HE := Lib.hid (goes_fail hgo.out hk hop)
            rw [hop] at hone
            have HO := Lib.hid hone
            clear hone hop hgo
            go_wp2_with (go_at_call 26; refine HO.out.mono ?_)
            rintro e w4 ⟨o4, rfl, g4⟩
            have hown4 := own_only hown o4 hp
            have hs4 : w.heap.size ≤ w4.heap.size := Nat.le_trans o.size o4.size
            go_wp2_with (at_builtin; refine wpList_append_own _ rfl _ _ 22 rfl w.heap.size 3 i0 (.int .i64 0) 1 8 Tryd.underlying22 hi hz0 hz1 hz2 rfl (by decide) _ _ _ rfl (hown4.alloc _) ⟨w4.heap.size, 0, none⟩ 1 1 [.int .i64 0] rfl rfl (cell_one_new _ _ _) (by simp [Value.oneCell']) (by unfold maxLen; omega) (by omega) (by simp; omega) ?_; intro v' w5 hown' hgrow _)
            have hpk : ∀ j, u4.ownBlock = some j → w.heap.size ≤ j := fun j hj => (hown4.lt j hj).1
            have g5 : RAt 55 w5 p ⟨#[]⟩ true := (hgrow.block p (by have := g4.lt; simp; omega) (fun e => by have := hpk p e.symm; omega)).trans (g4.kept ((Below.refl _ w4).alloc (Nat.le_refl _) _))
            refine ⟨⟨k + 1, pre ++ [0], ⟨#[]⟩, true, by go_num, by omega, by simpa using hown', g5, ((o.trans o4).alloc _).grown hgrow hpk, fun h => (by cases h), fun _ => ⟨HE.out, rfl⟩⟩, ?_⟩
            simp only [intOf]; omega
          | some xr =>
            obtain ⟨x, rest⟩ := xr
            have hnx := goes_next hgo.out hk hop
            have hless := intP_less hop
            rw [hop] at hone
            have HO := Lib.hid hone
            have HNX := Lib.hid hnx
            have hcl2 : cur.data.toList.length = cur.size := rfl
            have hrl : rest.length + 1 + pre.length ≤ 1000000000 := by omega
            clear hone hop hgo hnx hless hcl2
            go_wp2_with (go_at_call 26; refine HO.out.mono ?_)
            rintro e w4 ⟨o4, rfl, r4, hr4, g4⟩
            have hz4 : r4.size = rest.length := by show r4.data.toList.length = _; rw [hr4]
            have hown4 := own_only hown o4 hp
            have hs4 : w.heap.size ≤ w4.heap.size := Nat.le_trans o.size o4.size
            have HR4 := Lib.hid hr4
            clear hr4
            go_wp2_with (at_builtin; refine wpList_append_own _ rfl _ _ 22 rfl w.heap.size 3 i0 (.int .i64 0) 1 8 Tryd.underlying22 hi hz0 hz1 hz2 rfl (by decide) _ _ _ rfl (hown4.alloc _) ⟨w4.heap.size, 0, none⟩ 1 1 [.int .i64 x] rfl rfl (cell_one_new _ _ _) (by simp [Value.oneCell']) (by unfold maxLen; omega) (by omega) (by simp; omega) ?_; intro v' w5 hown' hgrow _)
            have hpk : ∀ j, u4.ownBlock = some j → w.heap.size ≤ j := fun j hj => (hown4.lt j hj).1
            have g5 : RAt 55 w5 p r4 false := (hgrow.block p (by have := g4.lt; simp; omega) (fun e => by have := hpk p e.symm; omega)).trans (g4.kept ((Below.refl _ w4).alloc (Nat.le_refl _) _))
            refine ⟨⟨k + 1, pre ++ [x], r4, false, by go_num, by omega, by simpa using hown', g5, ((o.trans o4).alloc _).grown hgrow hpk, fun _ => ⟨?_, by simp; omega⟩, fun h => by cases h⟩, ?_⟩
            · show Goes _ _ _ _ _ _
              rw [HR4.out]; exact HNX.out
            · simp only [intOf]; omega
        · have hki : (v : Int) ≤ k := by omega
          have hend := goes_end hgo.out hk
          by_cases hcl : ∃ t', cur.data.toList = 93 :: t'
          · obtain ⟨t', ht'⟩ := hcl
            have hres : res = some (pre, t') := by rw [HLS.out, hend, ht', close_yes]
            have HR := Lib.hid hres
            have HS2 := Lib.hid (close_any_yes wr p cur false 93 t' g ht')
            clear hres hend ht' hgo
            go_wp2_with (go_at_call 52; refine HS2.out.mono ?_)
            rintro e w4 ⟨rfl, ⟨r4, hr4, g4⟩, o4⟩
            have HR4 := Lib.hid hr4
            clear hr4
            go_wp2
            go_ret
            exact lSome HR.out (o.trans o4) (own_only hown o4 hp) HR4.out g4
          · have hres : res = none := by rw [HLS.out, hend, close_no _ _ (fun t' e => hcl ⟨t', e⟩)]
            have HR := Lib.hid hres
            have HS2 := Lib.hid (close_any_no wr p cur false 93 g (fun t' e => hcl ⟨t', e⟩))
            clear hres hend hgo hcl
            go_wp2_with (go_at_call 52; refine HS2.out.mono ?_)
            rintro e w4 ⟨rfl, g4, o4⟩
            go_wp2
            go_ret
            exact lNone HR.out (o.trans o4) g4
      · have HBd := Lib.hid (hbad rfl)
        clear hgood hbad
        have HR : Hid (res = none) := by show _ = _; rw [HLS.out, HBd.out.1]; rfl
        have HCu := Lib.hid HBd.out.2
        clear HBd
        by_cases hk : k < v
        · have hki : (k : Int) < v := by omega
          go_wp2
          go_ret
          exact lNone HR.out o (by rw [← HCu.out]; exact g)
        · have hki : (v : Int) ≤ k := by omega
          go_wp2
          go_ret
          exact lNone HR.out o (by rw [← HCu.out]; exact g)

set_option maxRecDepth 100000 in
set_option maxHeartbeats 1000000 in
theorem fTexts_any (w : World) (p : Nat) (r : ByteArray) (b : Bool) (h : RAt 55 w p r b) (hb : b = true → r.data.toList = []) (hrz : r.size ≤ 1000000000) :
    Calls Tryd.prog 34 #[.pointer (some ⟨p, 0, none⟩)] w (LPost Value.string 9 w p b (listP textP r.data.toList)) := by
  obtain ⟨i0, hi, hz0, hz1, hz2⟩ := info_parts infoStr
  obtain ⟨res, hres0⟩ : ∃ res, res = listP textP r.data.toList := ⟨_, rfl⟩
  rw [← hres0]
  have HN := Lib.hid (number_read w p r b 91 (by decide) (by decide) h hrz)
  have hp := h.lt
  cases hnp : numP 9223372036854775807 91 r.data.toList with
  | none =>
    have hres : res = none := by rw [hres0]; unfold listP; rw [hnp]
    rw [hnp] at HN
    have HR := Lib.hid hres
    clear hres hres0 hnp hb
    go_enter Tryd.func34, Tryd.ntmps34
    go_wp2_with (go_at_call 47; refine HN.out.mono ?_)
    rintro e w1 ⟨o1, rfl, g1⟩
    have c1 := g1.cell1
    go_wp2
    go_loop [4, 5] (fun lv iv => ∃ k : Nat, iv = .int .i64 k ∧ lv = .slice none 0 0) (fun _ iv => 0 - (intOf iv).toNat)
    case atStart => exact ⟨0, rfl, rfl⟩
    case round =>
      obtain ⟨k, rfl, rfl⟩ := hrel
      go_wp2
      go_ret
      exact lNone HR.out o1 g1
  | some vr =>
    obtain ⟨v, t⟩ := vr
    have hvl := numP_le hnp
    have hls := numP_less hnp
    have hbf : b = false := by
      cases b
      · rfl
      · have := hb rfl; rw [this] at hls; simp at hls
    subst hbf
    rw [hnp] at HN
    have hlst : res = closeP (elemsP textP v t) := by rw [hres0]; unfold listP; rw [hnp]
    have htl : t.length ≤ 1000000000 := by
      have : r.data.toList.length = r.size := rfl
      omega
    have HLS := Lib.hid hlst
    clear hres0 hnp hb hlst hls
    go_enter Tryd.func34, Tryd.ntmps34
    go_wp2_with (go_at_call 47; refine HN.out.mono ?_)
    rintro e w1 ⟨o1, rfl, r2, hr2, g2⟩
    have hzr2 : r2.size = t.length := by show r2.data.toList.length = _; rw [hr2]
    have hstart : Hid (Goes textP v t 0 [] r2.data.toList) := by
      show Goes _ _ _ _ _ _
      rw [hr2]; exact goes_start _ _ _
    clear hr2
    go_wp2
    go_loopw [4, 5] (fun lv iv wr => ∃ (k : Nat) (pre : List ByteArray) (cur : ByteArray) (bad : Bool), iv = .int .i64 k ∧ k ≤ v ∧ wr.ownsRow w.heap.size 9 1 lv pre.length (pre.map Value.string) ∧ RAt 55 wr p cur bad ∧ Only p w wr ∧
      (bad = false → Hid (Goes textP v t k pre cur.data.toList) ∧ cur.size + pre.length ≤ 1000000000) ∧ (bad = true → Hid (elemsP textP v t = none ∧ cur = ⟨#[]⟩))) (fun _ iv _ => v - (intOf iv).toNat)
    case atStart => exact ⟨0, [], r2, false, rfl, Nat.zero_le _, World.ownsRow_nil _ _ _ _, g2, o1, fun _ => ⟨hstart, by simp; omega⟩, fun h => by cases h⟩
    case round =>
      clear hstart hzr2
      obtain ⟨k, pre, cur, bad, rfl, hkv, hown, g, o, hgood, hbad⟩ := hrel
      have c1 := g.cell1
      cases bad
      · obtain ⟨hgo, hcz⟩ := hgood rfl
        clear hgood hbad
        by_cases hk : k < v
        · have hki : (k : Int) < v := by omega
          have hone := fText_any wr p cur false g (by simp) (by omega)
          cases hop : textP cur.data.toList with
          | none =>
            have HE := Lib.hid (goes_fail hgo.out hk hop)
            rw [hop] at hone
            have HO := Lib.hid hone
            clear hone hop hgo
            go_wp2_with (go_at_call 28; refine HO.out.mono ?_)
            rintro e w4 ⟨o4, rfl, g4⟩
            have hown4 := own_only hown o4 hp
            have hs4 : w.heap.size ≤ w4.heap.size := Nat.le_trans o.size o4.size
            go_wp2_with (at_builtin; refine wpList_append_own _ rfl _ _ 23 rfl w.heap.size 9 i0 (.string ByteArray.empty) 1 16 Tryd.underlying23 hi hz0 hz1 hz2 rfl (by decide) _ _ _ rfl (hown4.alloc _) ⟨w4.heap.size, 0, none⟩ 1 1 [.string ⟨#[]⟩] rfl rfl (cell_one_new _ _ _) (by simp [Value.oneCell']) (by unfold maxLen; omega) (by omega) (by simp; omega) ?_; intro v' w5 hown' hgrow _)
            have hpk : ∀ j, u4.ownBlock = some j → w.heap.size ≤ j := fun j hj => (hown4.lt j hj).1
            have g5 : RAt 55 w5 p ⟨#[]⟩ true := (hgrow.block p (by have := g4.lt; simp; omega) (fun e => by have := hpk p e.symm; omega)).trans (g4.kept ((Below.refl _ w4).alloc (Nat.le_refl _) _))
            refine ⟨⟨k + 1, pre ++ [⟨#[]⟩], ⟨#[]⟩, true, by go_num, by omega, by simpa using hown', g5, ((o.trans o4).alloc _).grown hgrow hpk, fun h => (by cases h), fun _ => ⟨HE.out, rfl⟩⟩, ?_⟩
            simp only [intOf]; omega
          | some xr =>
            obtain ⟨x, rest⟩ := xr
            have hnx := goes_next hgo.out hk hop
            have hless := textP_less hop
            rw [hop] at hone
            have HO := Lib.hid hone
            have HNX := Lib.hid hnx
            have hcl2 : cur.data.toList.length = cur.size := rfl
            have hrl : rest.length + 1 + pre.length ≤ 1000000000 := by omega
            clear hone hop hgo hnx hless hcl2
            go_wp2_with (go_at_call 28; refine HO.out.mono ?_)
            rintro e w4 ⟨o4, rfl, r4, hr4, g4⟩
            have hz4 : r4.size = rest.length := by show r4.data.toList.length = _; rw [hr4]
            have hown4 := own_only hown o4 hp
            have hs4 : w.heap.size ≤ w4.heap.size := Nat.le_trans o.size o4.size
            have HR4 := Lib.hid hr4
            clear hr4
            go_wp2_with (at_builtin; refine wpList_append_own _ rfl _ _ 23 rfl w.heap.size 9 i0 (.string ByteArray.empty) 1 16 Tryd.underlying23 hi hz0 hz1 hz2 rfl (by decide) _ _ _ rfl (hown4.alloc _) ⟨w4.heap.size, 0, none⟩ 1 1 [.string x] rfl rfl (cell_one_new _ _ _) (by simp [Value.oneCell']) (by unfold maxLen; omega) (by omega) (by simp; omega) ?_; intro v' w5 hown' hgrow _)
            have hpk : ∀ j, u4.ownBlock = some j → w.heap.size ≤ j := fun j hj => (hown4.lt j hj).1
            have g5 : RAt 55 w5 p r4 false := (hgrow.block p (by have := g4.lt; simp; omega) (fun e => by have := hpk p e.symm; omega)).trans (g4.kept ((Below.refl _ w4).alloc (Nat.le_refl _) _))
            refine ⟨⟨k + 1, pre ++ [x], r4, false, by go_num, by omega, by simpa using hown', g5, ((o.trans o4).alloc _).grown hgrow hpk, fun _ => ⟨?_, by simp; omega⟩, fun h => by cases h⟩, ?_⟩
            · show Goes _ _ _ _ _ _
              rw [HR4.out]; exact HNX.out
            · simp only [intOf]; omega
        · have hki : (v : Int) ≤ k := by omega
          have hend := goes_end hgo.out hk
          by_cases hcl : ∃ t', cur.data.toList = 93 :: t'
          · obtain ⟨t', ht'⟩ := hcl
            have hres : res = some (pre, t') := by rw [HLS.out, hend, ht', close_yes]
            have HR := Lib.hid hres
            have HS2 := Lib.hid (close_any_yes wr p cur false 93 t' g ht')
            clear hres hend ht' hgo
            go_wp2_with (go_at_call 52; refine HS2.out.mono ?_)
            rintro e w4 ⟨rfl, ⟨r4, hr4, g4⟩, o4⟩
            have HR4 := Lib.hid hr4
            clear hr4
            go_wp2
            go_ret
            exact lSome HR.out (o.trans o4) (own_only hown o4 hp) HR4.out g4
          · have hres : res = none := by rw [HLS.out, hend, close_no _ _ (fun t' e => hcl ⟨t', e⟩)]
            have HR := Lib.hid hres
            have HS2 := Lib.hid (close_any_no wr p cur false 93 g (fun t' e => hcl ⟨t', e⟩))
            clear hres hend hgo hcl
            go_wp2_with (go_at_call 52; refine HS2.out.mono ?_)
            rintro e w4 ⟨rfl, g4, o4⟩
            go_wp2
            go_ret
            exact lNone HR.out (o.trans o4) g4
      · have HBd := Lib.hid (hbad rfl)
        clear hgood hbad
        have HR : Hid (res = none) := by show _ = _; rw [HLS.out, HBd.out.1]; rfl
        have HCu := Lib.hid HBd.out.2
        clear HBd
        by_cases hk : k < v
        · have hki : (k : Int) < v := by omega
          go_wp2
          go_ret
          exact lNone HR.out o (by rw [← HCu.out]; exact g)
        · have hki : (v : Int) ≤ k := by omega
          go_wp2
          go_ret
          exact lNone HR.out o (by rw [← HCu.out]; exact g)
end Go.Proofs.YtonfkmoocgpleaaDoor
