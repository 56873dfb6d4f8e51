/- The reader's lists of strings; the two methods. -/
import Derived.Test.YtonfkmoocgpleaaDoorElems
namespace Go.Proofs.YtonfkmoocgpleaaDoor
open Go.RowKit

theorem infoStr : (Tryd.prog.info? 9).map (fun i => (i.zero, i.size, i.bytes)) = some (some (.string ByteArray.empty), 1, 16) := by kernel_rfl

set_option maxRecDepth 100000 in
set_option maxHeartbeats 1000000 in
theorem elems2_any (w : World) (p : Nat) (r : ByteArray) (b : Bool) (h : RAt 53 w p r b) (hb : b = true → r.data.toList = []) (hrz : r.size ≤ 1000000000) :
    Calls Tryd.prog 54 #[.pointer (some ⟨p, 0, none⟩), .func (.func 27) #[.pointer (some ⟨p, 0, none⟩)] #[]] w (ListPost Value.string 9 w p b (listP textP r.data.toList)) := by
  obtain ⟨i0, hi, hz0, hz1, hz2⟩ := info_parts infoStr
  obtain ⟨res, hres0⟩ : ∃ res, res = listP textP r.data.toList := ⟨_, rfl⟩
  rw [← hres0]
  have HD := Lib.hid (digits_any w p r b 9223372036854775807 h (by omega) (by omega) hrz)
  cases hdp : digP 9223372036854775807 r.data.toList with
  | none =>
    have hres : res = none := by rw [hres0]; unfold listP numP; rw [hdp]
    rw [hdp] at HD
    have HR := Lib.hid hres
    clear hres hres0 hdp hb
    go_enter Tryd.func54, Tryd.ntmps54
    go_wp2_with (go_at_call 45; refine HD.out.mono ?_; rintro e w1 ⟨o1, rfl, g1⟩)
    go_ret
    exact listNone HR.out o1 g1
  | some vr =>
    obtain ⟨v, rest⟩ := vr
    have hvl : v ≤ 9223372036854775807 := digP_le hdp
    have hls := digP_less hdp
    have hbf : b = false := by
      cases b
      · rfl
      · have := hb rfl; rw [this] at hls; simp at hls
    subst hbf
    rw [hdp] at HD
    by_cases hc : ∃ t, rest = 91 :: t
    · obtain ⟨t, rfl⟩ := hc
      have hlst : res = closeP (elemsP textP v t) := by
        have hn : numP 9223372036854775807 91 r.data.toList = some (v, t) := by unfold numP; rw [hdp]; simp
        rw [hres0]; unfold listP; rw [hn]
      have htl : t.length ≤ 1000000000 := by
        have : r.data.toList.length = r.size := rfl
        simp only [List.length_cons] at hls; omega
      have HLS := Lib.hid hlst
      clear hres0 hdp hb hlst hls
      go_enter Tryd.func54, Tryd.ntmps54
      go_wp2_with (go_at_call 45; refine HD.out.mono ?_)
      rintro e w1 ⟨o1, rfl, r1, hr1, g1⟩
      have HS := Lib.hid (skip_yes w1 p r1 false 91 t g1 hr1)
      clear hr1
      go_wp2_with (go_at_call 46; refine HS.out.mono ?_)
      rintro e w2 ⟨rfl, ⟨r2, hr2, g2⟩, o2⟩
      have hzr2 : r2.size = t.length := by show r2.data.toList.length = _; rw [hr2]
      have hp := h.lt
      have hstart : Hid (elemsP textP v t = (elemsP textP v r2.data.toList).map fun y => (([] : List ByteArray) ++ y.1, y.2)) := by
        show _ = _
        rw [hr2]
        cases elemsP textP v t <;> simp
      clear hr2
      go_wp2
      go_loopw [5, 7] (fun nv lv wr => ∃ (m : Nat) (pre : List ByteArray) (cur : ByteArray), nv = .int .u64 m ∧ m ≤ 9223372036854775807 ∧ Hid (elemsP textP v t = (elemsP textP m cur.data.toList).map fun y => (pre ++ y.1, y.2)) ∧ cur.size + pre.length ≤ 1000000000 ∧ wr.ownsRow w.heap.size 9 1 lv pre.length (pre.map Value.string) ∧ RAt 53 wr p cur false ∧ Only p w wr) (fun nv _ _ => match nv with | .int _ n => n.toNat | _ => 0)
      case atStart => exact ⟨v, [], r2, rfl, hvl, hstart, by simp; omega, World.ownsRow_nil _ _ _ _, g2, o1.trans o2⟩
      case round =>
        clear hstart hzr2
        obtain ⟨m, pre, cur, rfl, hm, hel, hcz, hown, g, o⟩ := hrel
        cases m with
        | zero =>
          have hend := elems_end hel.out
          by_cases hcl : ∃ t', cur.data.toList = 93 :: t'
          · obtain ⟨t', ht'⟩ := hcl
            have hres : res = some (pre, t') := by
              rw [HLS.out, hend, ht', close_yes]
            have HR := Lib.hid hres
            have HS2 := Lib.hid (skip_yes wr p cur false 93 t' g ht')
            clear hres hend ht' hel
            go_wp2_with (go_at_call 46; refine HS2.out.mono ?_)
            rintro e w4 ⟨rfl, ⟨r4, hr4, g4⟩, o4⟩
            have HR4 := Lib.hid hr4
            clear hr4
            go_wp2
            go_ret
            exact listSome HR.out (o.trans o4) (own_only hown o4 hp) HR4.out g4
          · have hres : res = none := by
              rw [HLS.out, hend, close_no _ _ (fun t' e => hcl ⟨t', e⟩)]
            have HR := Lib.hid hres
            have HS2 := Lib.hid (skip_no wr p cur false 93 g (fun t' e => hcl ⟨t', e⟩))
            clear hres hend hel hcl
            go_wp2_with (go_at_call 46; refine HS2.out.mono ?_)
            rintro e w4 ⟨rfl, g4, o4⟩
            go_wp2
            go_ret
            exact listNone HR.out (o.trans o4) g4
        | succ m =>
          have hone := rText_any wr p cur false g (by omega)
          have hmi : (0 : Int) < (m : Int) + 1 := by omega
          cases hop : textP cur.data.toList with
          | none =>
            have hres : res = none := by rw [HLS.out, elems_fail hel.out hop]; rfl
            have HR := Lib.hid hres
            rw [hop] at hone
            have HO := Lib.hid hone
            clear hres hone hop hel
            go_wp2_with (go_at_call 27; refine HO.out.mono ?_)
            rintro e w4 ⟨o4, rfl, g4⟩
            have c1 := g4.cell1
            go_wp2
            go_ret
            exact listNone HR.out (o.trans o4) g4
          | some xr =>
            obtain ⟨x, rest⟩ := xr
            have hnx := elems_more hel.out hop
            have hless := textP_less hop
            rw [hop] at hone
            have HO := Lib.hid hone
            have HNX := Lib.hid hnx
            have hcl2 : cur.data.toList.length = cur.size := rfl
            have hrl : rest.length + 1 + pre.length ≤ 1000000000 := by omega
            clear hone hop hel hnx hless hcl2
            go_wp2_with (go_at_call 27; refine HO.out.mono ?_)
            rintro e w4 ⟨o4, rfl, r4, hr4, g4⟩
            have c1 := g4.cell1
            have hz4 : r4.size = rest.length := by show r4.data.toList.length = _; rw [hr4]
            have hown4 := own_only hown o4 hp
            have hs4 : w.heap.size ≤ w4.heap.size := Nat.le_trans o.size o4.size
            have HR4 := Lib.hid hr4
            clear hr4
            go_wp2_with (at_builtin; refine wpList_append_own _ rfl _ _ 23 rfl w.heap.size 9 i0 (.string ByteArray.empty) 1 16 Tryd.underlying23 hi hz0 hz1 hz2 rfl (by decide) _ _ _ rfl (hown4.alloc _) ⟨w4.heap.size, 0, none⟩ 1 1 [.string x] rfl rfl (cell_one_new _ _ _) (by simp [Value.oneCell']) (by unfold maxLen; omega) (by omega) (by simp; omega) ?_; intro v' w5 hown' hgrow _)
            have hpk : ∀ k, u7.ownBlock = some k → w.heap.size ≤ k := fun k hk => (hown4.lt k hk).1
            have g5 : RAt 53 w5 p r4 false := (hgrow.block p (by have := g4.lt; simp; omega) (fun e => by have := hpk p e.symm; omega)).trans (g4.kept ((Below.refl _ w4).alloc (Nat.le_refl _) _))
            refine ⟨⟨m, pre ++ [x], r4, rfl, by omega, ?_, by simp; omega, by simpa using hown', g5, ((o.trans o4).alloc _).grown hgrow hpk⟩, ?_⟩
            · show _ = _
              rw [HR4.out]; exact HNX.out
            · show (m : Int).toNat < ((m + 1 : Nat) : Int).toNat
              omega
    · have hres : res = none := by
        have : numP 9223372036854775807 91 r.data.toList = none := by
          unfold numP; rw [hdp]
          cases rest with
          | nil => rfl
          | cons d t => simp only; rw [if_neg (fun e => hc ⟨t, by rw [e]⟩)]
        rw [hres0]; unfold listP; rw [this]
      have HR := Lib.hid hres
      clear hres hres0 hdp hb hls
      go_enter Tryd.func54, Tryd.ntmps54
      go_wp2_with (go_at_call 45; refine HD.out.mono ?_)
      rintro e w1 ⟨o1, rfl, r1, hr1, g1⟩
      have HS := Lib.hid (skip_no w1 p r1 false 91 g1 (fun t e => hc ⟨t, by rw [← hr1, e]⟩))
      clear hr1 hc
      go_wp2_with (go_at_call 46; refine HS.out.mono ?_)
      rintro e w2 ⟨rfl, g2, o2⟩
      go_wp2
      go_ret
      exact listNone HR.out (o1.trans o2) g2
theorem rNums_any (w : World) (p : Nat) (r : ByteArray) (b : Bool) (h : RAt 53 w p r b) (hb : b = true → r.data.toList = []) (hrz : r.size ≤ 1000000000) :
    Calls Tryd.prog 30 #[.pointer (some ⟨p, 0, none⟩)] w (ListPost (Value.int .i64) 3 w p b (listP intP r.data.toList)) := by
  have HE := Lib.hid (elems1_any w p r b h hb hrz)
  obtain ⟨res, hres⟩ : ∃ res, res = listP intP r.data.toList := ⟨_, rfl⟩
  rw [← hres] at HE ⊢
  clear hres hb
  go_enter Tryd.func30, Tryd.ntmps30
  go_wp2_with (go_at_call 53; refine HE.out.mono ?_)
  rintro e w1 ⟨o1, h1⟩
  cases res with
  | none =>
    obtain ⟨rfl, g1⟩ := h1
    go_wp2
    go_ret
    exact listNone rfl o1 g1
  | some x =>
    obtain ⟨vs, rest⟩ := x
    obtain ⟨⟨v, rfl, hown⟩, r', hr', g1⟩ := h1
    have HR := Lib.hid hr'
    clear hr'
    go_wp2
    go_ret
    exact listSome rfl o1 hown HR.out g1
theorem rTexts_any (w : World) (p : Nat) (r : ByteArray) (b : Bool) (h : RAt 53 w p r b) (hb : b = true → r.data.toList = []) (hrz : r.size ≤ 1000000000) :
    Calls Tryd.prog 33 #[.pointer (some ⟨p, 0, none⟩)] w (ListPost Value.string 9 w p b (listP textP r.data.toList)) := by
  have HE := Lib.hid (elems2_any w p r b h hb hrz)
  obtain ⟨res, hres⟩ : ∃ res, res = listP textP r.data.toList := ⟨_, rfl⟩
  rw [← hres] at HE ⊢
  clear hres hb
  go_enter Tryd.func33, Tryd.ntmps33
  go_wp2_with (go_at_call 54; refine HE.out.mono ?_)
  rintro e w1 ⟨o1, h1⟩
  cases res with
  | none =>
    obtain ⟨rfl, g1⟩ := h1
    go_wp2
    go_ret
    exact listNone rfl o1 g1
  | some x =>
    obtain ⟨vs, rest⟩ := x
    obtain ⟨⟨v, rfl, hown⟩, r', hr', g1⟩ := h1
    have HR := Lib.hid hr'
    clear hr'
    go_wp2
    go_ret
    exact listSome rfl o1 hown HR.out g1
end Go.Proofs.YtonfkmoocgpleaaDoor
