/- The reference's reader: strings. -/
import Derived.Test.YtonfkmoocgpleaaDoorRefRead
namespace Go.Proofs.YtonfkmoocgpleaaDoor
open Go.RowKit

theorem text_short {l rest : List UInt8} {n : Nat} (h : numP 9223372036854775807 58 l = some (n, rest)) (hn : rest.length ≤ n) : textP l = none := by
  unfold textP
  rw [h]
  simp only
  by_cases h1 : rest.length < n
  · rw [if_pos h1]
  · rw [if_neg h1, List.drop_eq_nil_of_le hn]
theorem text_long {l rest t : List UInt8} {n : Nat} (h : numP 9223372036854775807 58 l = some (n, rest)) (hn : n < rest.length) (hd : rest.drop n = 44 :: t) : textP l = some (⟨(rest.take n).toArray⟩, t) := by
  unfold textP
  rw [h]
  simp only
  rw [if_neg (by omega), hd]
  simp only [if_true]
theorem text_other {l rest : List UInt8} {n : Nat} (h : numP 9223372036854775807 58 l = some (n, rest)) (hn : n < rest.length) (hd : ∀ t, rest.drop n ≠ 44 :: t) : textP l = none := by
  unfold textP
  rw [h]
  simp only
  rw [if_neg (by omega)]
  cases hx : rest.drop n with
  | nil => rfl
  | cons d t =>
    simp only
    rw [if_neg (fun e => hd t (by rw [hx, e]))]

set_option maxRecDepth 100000 in
set_option maxHeartbeats 1000000 in
theorem fText_any (w : World) (p : Nat) (r : ByteArray) (b : Bool) (h : RAt 55 w p r b) (hb : b = true → r.data.toList = []) (hrz : r.size ≤ 1000000000) :
    Calls Tryd.prog 28 #[.pointer (some ⟨p, 0, none⟩)] w (RPost Value.string (.string ⟨#[]⟩) w p b (textP r.data.toList)) := by
  have HN := Lib.hid (number_read w p r b 58 (by decide) (by decide) h hrz)
  obtain ⟨res, hres0⟩ : ∃ res, res = textP r.data.toList := ⟨_, rfl⟩
  rw [← hres0]
  cases hnp : numP 9223372036854775807 58 r.data.toList with
  | none =>
    have hres : res = none := by rw [hres0]; unfold textP; rw [hnp]
    rw [hnp] at HN
    have HR := Lib.hid hres
    clear hres hres0 hnp hb
    go_enter Tryd.func28, Tryd.ntmps28
    go_wp2_with (go_at_call 47; refine HN.out.mono ?_)
    rintro e w1 ⟨o1, rfl, g1⟩
    have c1 := g1.cell1
    have HF := Lib.hid (rfail_any w1 p _ _ g1)
    go_wp2_with (go_at_call 51; refine HF.out.mono ?_; rintro e w2 ⟨rfl, g2, o2⟩)
    go_ret
    exact rNone HR.out (o1.trans o2) g2
  | some vr =>
    obtain ⟨n, t⟩ := vr
    have hless := numP_less hnp
    have hn63 := numP_le hnp
    have hbf : b = false := by
      cases b
      · rfl
      · have := hb rfl; rw [this] at hless; simp at hless
    subst hbf
    have htl : t.length ≤ 1000000000 := by
      have : r.data.toList.length = r.size := rfl
      omega
    rw [hnp] at HN
    by_cases hbig : t.length ≤ n
    · have HR := Lib.hid (hres0.trans (text_short hnp hbig))
      clear hres0 hnp hb hless
      go_enter Tryd.func28, Tryd.ntmps28
      go_wp2_with (go_at_call 47; refine HN.out.mono ?_)
      rintro e w1 ⟨o1, rfl, r1, hr1, g1⟩
      have hz1 : r1.size = t.length := by show r1.data.toList.length = _; rw [hr1]
      have hbi : (r1.size : Int) ≤ n := by omega
      have c0 := g1.cell0
      have c1 := g1.cell1
      have HF := Lib.hid (rfail_any w1 p _ _ g1)
      clear hr1 hz1 hbig
      go_wp2_with (go_at_call 51; refine HF.out.mono ?_; rintro e w2 ⟨rfl, g2, o2⟩)
      go_ret
      exact rNone HR.out (o1.trans o2) g2
    · have hlt : n < t.length := by omega
      by_cases hcm : ∃ t', t.drop n = 44 :: t'
      · obtain ⟨t', ht'⟩ := hcm
        have HR := Lib.hid (hres0.trans (text_long hnp hlt ht'))
        clear hres0 hnp hb hless
        go_enter Tryd.func28, Tryd.ntmps28
        go_wp2_with (go_at_call 47; refine HN.out.mono ?_)
        rintro e w1 ⟨o1, rfl, r1, hr1, g1⟩
        have hz1 : r1.size = t.length := by show r1.data.toList.length = _; rw [hr1]
        have hbi : (n : Int) < r1.size := by omega
        have hbn : n ≤ r1.size := by omega
        have hrz1 : r1.size ≤ 1000000000 := by omega
        have c0 := g1.cell0
        have c1 := g1.cell1
        have f0 := g1.frozen0
        have hT1 : (r1.extract 0 n).data.toList = t.take n := by rw [extract_head, hr1]
        have hD1 : (r1.extract n r1.size).data.toList = 44 :: t' := by rw [extract_rest, hr1, ht']
        have g2 := g1.set0 (r1.extract n r1.size)
        have HC := Lib.hid (close_any_yes _ p (r1.extract n r1.size) false 44 t' g2 hD1)
        have HT1 := Lib.hid hT1
        clear hr1 hz1 hbig hlt ht' hT1 hD1
        go_wp2_with (go_at_call 52; refine HC.out.mono ?_; rintro e w2 ⟨rfl, ⟨r3, hr3, g3⟩, o3⟩; have HR3 := Lib.hid hr3; clear hr3)
        go_ret
        exact rSome (v := r1.extract 0 n) (by rw [HR.out, show r1.extract 0 n = ⟨(t.take n).toArray⟩ from string_eq HT1.out]) HR3.out g3 ((o1.trans (Only.set _ _ _ _)).trans o3)
      · have HR := Lib.hid (hres0.trans (text_other hnp hlt (fun t' e => hcm ⟨t', e⟩)))
        clear hres0 hnp hb hless
        go_enter Tryd.func28, Tryd.ntmps28
        go_wp2_with (go_at_call 47; refine HN.out.mono ?_)
        rintro e w1 ⟨o1, rfl, r1, hr1, g1⟩
        have hz1 : r1.size = t.length := by show r1.data.toList.length = _; rw [hr1]
        have hbi : (n : Int) < r1.size := by omega
        have hbn : n ≤ r1.size := by omega
        have hrz1 : r1.size ≤ 1000000000 := by omega
        have c0 := g1.cell0
        have c1 := g1.cell1
        have f0 := g1.frozen0
        have g2 := g1.set0 (r1.extract n r1.size)
        have HC := Lib.hid (close_any_no _ p (r1.extract n r1.size) false 44 g2 (fun t' e => hcm ⟨t', by rw [← e, extract_rest, hr1]⟩))
        clear hr1 hz1 hbig hlt hcm
        go_wp2_with (go_at_call 52; refine HC.out.mono ?_; rintro e w2 ⟨rfl, g3, o3⟩)
        go_ret
        exact rNone HR.out ((o1.trans (Only.set _ _ _ _)).trans o3) g3
end Go.Proofs.YtonfkmoocgpleaaDoor
