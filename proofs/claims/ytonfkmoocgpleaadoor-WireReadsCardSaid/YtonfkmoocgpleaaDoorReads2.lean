/- The reader's ints and strings. -/
import Derived.Test.YtonfkmoocgpleaaDoorReads
namespace Go.Proofs.YtonfkmoocgpleaaDoor
open Go.RowKit

/-- An int and the semicolon behind it. -/
def intP (l : List UInt8) : Option (Int × List UInt8) :=
  match l with
  | 45 :: t => match numP 9223372036854775808 59 t with
    | some (v, rest) => if v = 0 then none else some (-(v : Int), rest)
    | none => none
  | _ => (numP 9223372036854775807 59 l).map fun x => ((x.1 : Int), x.2)

theorem neg_back (v : Nat) (h : v ≤ 9223372036854775808) : wrap64 (IntKind.u64.wrap (-(v : Int))) = -(v : Int) := by
  rw [IntKind.wrap_u64]; unfold wrap64; omega

set_option maxRecDepth 100000 in
set_option maxHeartbeats 1000000 in
theorem rInt_any (w : World) (p : Nat) (r : ByteArray) (b : Bool) (h : RAt 53 w p r b) (hrz : r.size ≤ 1000000000) :
    Calls Tryd.prog 25 #[.pointer (some ⟨p, 0, none⟩)] w (ReadPost (Value.int .i64) (.int .i64 0) w p b (intP r.data.toList)) := by
  have c0 := h.cell0
  have f0 := h.frozen0
  have hpre := Tryd.strings_HasPrefix r ⟨#[45]⟩ w
  by_cases hm : ∃ t, r.data.toList = 45 :: t
  · obtain ⟨t, ht⟩ := hm
    have hp : Lib.hasPrefix r.data.toList (⟨#[45]⟩ : ByteArray).data.toList = true := by rw [ht]; rfl
    rw [hp] at hpre
    have hsz : r.size = t.length + 1 := by show r.data.toList.length = _; rw [ht]; rfl
    have h1i : (1 : Int) ≤ r.size := by omega
    have hex : (r.extract 1 r.size).data.toList = t := by rw [extract_rest, ht]; rfl
    have g0 := h.set0 (r.extract 1 r.size)
    have hd := digits_any _ p (r.extract 1 r.size) b 9223372036854775808 g0 (by omega) (by omega) (by rw [ByteArray.size_extract]; omega)
    rw [hex] at hd
    have HD := Lib.hid hd
    have HP := Lib.hid hpre
    have hint : intP r.data.toList = match numP 9223372036854775808 59 t with
      | some (v, rest) => if v = 0 then none else some (-(v : Int), rest)
      | none => none := by rw [ht]; rfl
    rw [hint]
    clear hd hpre hp hex hsz ht hint
    cases hdp : digP 9223372036854775808 t with
    | none =>
      have hres : numP 9223372036854775808 59 t = none := by unfold numP; rw [hdp]
      rw [hdp] at HD
      rw [hres]
      clear hres hdp
      go_enter Tryd.func25, Tryd.ntmps25
      go_wp2_with (go_at_call 48; refine HP.out.mono ?_; rintro e w1 ⟨rfl, rfl⟩)
      refine HD.out.mono ?_
      rintro e w2 ⟨o2, rfl, g2⟩
      go_wp2
      go_ret
      exact readNone rfl ((Only.set _ _ _ _).trans o2) g2
    | some vr =>
      obtain ⟨v, rest⟩ := vr
      have hvl : v ≤ 9223372036854775808 := digP_le hdp
      rw [hdp] at HD
      by_cases hc : ∃ t', rest = 59 :: t'
      · obtain ⟨t', rfl⟩ := hc
        have hres : numP 9223372036854775808 59 t = some (v, t') := by unfold numP; rw [hdp]; simp
        rw [hres]
        clear hres hdp
        by_cases hv0 : v = 0
        · subst hv0
          go_enter Tryd.func25, Tryd.ntmps25
          go_wp2_with (go_at_call 48; refine HP.out.mono ?_; rintro e w1 ⟨rfl, rfl⟩)
          refine HD.out.mono ?_
          rintro e w2 ⟨o2, rfl, r2, hr2, g2⟩
          have HS := Lib.hid (skip_yes w2 p r2 b 59 t' g2 hr2)
          clear hr2
          go_wp2_with (go_at_call 46; refine HS.out.mono ?_)
          rintro e w3 ⟨rfl, ⟨r3, hr3, g3⟩, o3⟩
          have HF := Lib.hid (fail_any w3 p r3 b g3)
          clear hr3
          go_wp2_with (go_at_call 49; refine HF.out.mono ?_)
          rintro e w4 ⟨rfl, g4, o4⟩
          go_wp2
          go_ret
          exact readNone rfl ((((Only.set _ _ _ _).trans o2).trans o3).trans o4) g4
        · have hvi : ¬ (v : Int) = 0 := by omega
          have hneg := neg_back v hvl
          go_enter Tryd.func25, Tryd.ntmps25
          go_wp2_with (go_at_call 48; refine HP.out.mono ?_; rintro e w1 ⟨rfl, rfl⟩)
          refine HD.out.mono ?_
          rintro e w2 ⟨o2, rfl, r2, hr2, g2⟩
          have HS := Lib.hid (skip_yes w2 p r2 b 59 t' g2 hr2)
          clear hr2
          go_wp2_with (go_at_call 46; refine HS.out.mono ?_)
          rintro e w3 ⟨rfl, ⟨r3, hr3, g3⟩, o3⟩
          have HR3 := Lib.hid hr3
          clear hr3
          go_wp2
          go_ret
          exact readSome rfl HR3.out g3 (((Only.set _ _ _ _).trans o2).trans o3)
      · have hres : numP 9223372036854775808 59 t = none := by
          unfold numP; rw [hdp]
          cases rest with
          | nil => rfl
          | cons d t' => simp only; rw [if_neg (fun e => hc ⟨t', by rw [e]⟩)]
        rw [hres]
        clear hres hdp
        go_enter Tryd.func25, Tryd.ntmps25
        go_wp2_with (go_at_call 48; refine HP.out.mono ?_; rintro e w1 ⟨rfl, rfl⟩)
        refine HD.out.mono ?_
        rintro e w2 ⟨o2, rfl, r2, hr2, g2⟩
        have HS := Lib.hid (skip_no w2 p r2 b 59 g2 (fun t' e => hc ⟨t', by rw [← hr2, e]⟩))
        clear hr2 hc
        go_wp2_with (go_at_call 46; refine HS.out.mono ?_)
        rintro e w3 ⟨rfl, g3, o3⟩
        go_wp2
        go_ret
        exact readNone rfl (((Only.set _ _ _ _).trans o2).trans o3) g3
  · have hp : Lib.hasPrefix r.data.toList (⟨#[45]⟩ : ByteArray).data.toList = false := by
      cases hl : r.data.toList with
      | nil => rfl
      | cons d t =>
        have : d ≠ 45 := fun e => hm ⟨t, by rw [hl, e]⟩
        show (45 == d && _) = false
        have h2 : ((45 : UInt8) == d) = false := by rw [beq_eq_false_iff_ne]; exact fun e => this e.symm
        rw [h2]; rfl
    rw [hp] at hpre
    have hint : intP r.data.toList = (numP 9223372036854775807 59 r.data.toList).map fun x => ((x.1 : Int), x.2) := by
      cases hl : r.data.toList with
      | nil => rfl
      | cons d t =>
        have hd : d ≠ 45 := fun e => hm ⟨t, by rw [hl, e]⟩
        unfold intP
        split
        · rename_i t' e; cases e; exact absurd rfl hd
        · rfl
    have hn := rNum_any w p r b h hrz
    rw [hint]
    have HP := Lib.hid hpre
    have HN := Lib.hid hn
    clear hpre hp hint hn hm
    go_enter Tryd.func25, Tryd.ntmps25
    go_wp2_with (go_at_call 48; refine HP.out.mono ?_; rintro e w1 ⟨rfl, rfl⟩)
    refine HN.out.mono ?_
    rintro e w2 ⟨o2, hmatch⟩
    cases hnp : numP 9223372036854775807 59 r.data.toList with
    | none =>
      rw [hnp] at hmatch
      obtain ⟨rfl, g2⟩ := hmatch
      go_wp2
      go_ret
      exact readNone (by rw [hnp]; rfl) o2 g2
    | some vr =>
      obtain ⟨v, rest⟩ := vr
      rw [hnp] at hmatch
      obtain ⟨rfl, r2, hr2, g2⟩ := hmatch
      have HR2 := Lib.hid hr2
      clear hr2
      go_wp2
      go_ret
      exact readSome (v := (v : Int)) (by rw [hnp]; rfl) HR2.out g2 o2

/-- A string: its length, a colon, its bytes, a comma. -/
def textP (l : List UInt8) : Option (ByteArray × List UInt8) :=
  match numP 9223372036854775807 58 l with
  | some (n, rest) => if rest.length < n then none else
    match rest.drop n with
    | d :: t => if d = 44 then some (⟨(rest.take n).toArray⟩, t) else none
    | [] => none
  | none => none

set_option maxRecDepth 100000 in
set_option maxHeartbeats 1000000 in
theorem rText_any (w : World) (p : Nat) (r : ByteArray) (b : Bool) (h : RAt 53 w p r b) (hrz : r.size ≤ 1000000000) :
    Calls Tryd.prog 27 #[.pointer (some ⟨p, 0, none⟩)] w (ReadPost Value.string (.string ⟨#[]⟩) w p b (textP r.data.toList)) := by
  have HD := Lib.hid (digits_any w p r b 9223372036854775807 h (by omega) (by omega) hrz)
  obtain ⟨res, hres0⟩ : ∃ res, res = textP r.data.toList := ⟨_, rfl⟩
  rw [← hres0]
  cases hdp : digP 9223372036854775807 r.data.toList with
  | none =>
    have hres : res = none := by rw [hres0]; unfold textP numP; rw [hdp]
    clear hres0
    rw [hdp] at HD
    have HR := Lib.hid hres
    clear hres hdp
    go_enter Tryd.func27, Tryd.ntmps27
    go_wp2_with (go_at_call 45; refine HD.out.mono ?_; rintro e w1 ⟨o1, rfl, g1⟩)
    go_ret
    exact readNone HR.out o1 g1
  | some vr =>
    obtain ⟨v, rest⟩ := vr
    have hvl : v ≤ 9223372036854775807 := digP_le hdp
    have hrl : rest.length ≤ r.size := by
      rw [digP_rest hdp]
      exact (List.dropWhile_sublist _).length_le
    rw [hdp] at HD
    by_cases hc : ∃ t, rest = 58 :: t
    · obtain ⟨t, rfl⟩ := hc
      have hnp : numP 9223372036854775807 58 r.data.toList = some (v, t) := by unfold numP; rw [hdp]; simp
      have htx : res = if t.length < v then none else match t.drop v with
        | d :: t' => if d = 44 then some (⟨(t.take v).toArray⟩, t') else none
        | [] => none := by rw [hres0]; unfold textP; rw [hnp]
      have htl : t.length ≤ 1000000000 := by simp only [List.length_cons] at hrl; omega
      clear hnp hdp hrl hres0
      by_cases hbig : t.length < v
      · rw [if_pos hbig] at htx
        have HR := Lib.hid htx
        clear htx
        have hbi : (t.length : Int) < v := by omega
        go_enter Tryd.func27, Tryd.ntmps27
        go_wp2_with (go_at_call 45; refine HD.out.mono ?_)
        rintro e w1 ⟨o1, rfl, r1, hr1, g1⟩
        have HS := Lib.hid (skip_yes w1 p r1 b 58 t g1 hr1)
        clear hr1
        go_wp2_with (go_at_call 46; refine HS.out.mono ?_)
        rintro e w2 ⟨rfl, ⟨r2, hr2, g2⟩, o2⟩
        have hz2 : r2.size = t.length := by show r2.data.toList.length = _; rw [hr2]
        have hbi2 : (r2.size : Int) < v := by omega
        have c0 := g2.cell0
        have HF := Lib.hid (fail_any w2 p r2 b g2)
        clear hr2 hbig hbi hz2
        go_wp2_with (go_at_call 49; refine HF.out.mono ?_)
        rintro e w3 ⟨rfl, g3, o3⟩
        go_wp2
        go_ret
        exact readNone HR.out ((o1.trans o2).trans o3) g3
      · rw [if_neg hbig] at htx
        have HTx := Lib.hid htx
        clear htx
        go_enter Tryd.func27, Tryd.ntmps27
        go_wp2_with (go_at_call 45; refine HD.out.mono ?_)
        rintro e w1 ⟨o1, rfl, r1, hr1, g1⟩
        have HS := Lib.hid (skip_yes w1 p r1 b 58 t g1 hr1)
        clear hr1
        go_wp2_with (go_at_call 46; refine HS.out.mono ?_)
        rintro e w2 ⟨rfl, ⟨r2, hr2, g2⟩, o2⟩
        have hz2 : r2.size = t.length := by show r2.data.toList.length = _; rw [hr2]
        have hbi2 : (v : Int) ≤ r2.size := by omega
        have hbn2 : v ≤ r2.size := by omega
        have c0 := g2.cell0
        have f0 := g2.frozen0
        have hrz2 : r2.size ≤ 1000000000 := by omega
        have hT2 : (r2.extract 0 v).data.toList = t.take v := by rw [Lib.extract_data, List.drop_zero, Nat.sub_zero, hr2]
        have hD2 : (r2.extract v r2.size).data.toList = t.drop v := by rw [extract_rest, hr2]
        have HT2 := Lib.hid hT2
        have HD2 := Lib.hid hD2
        clear hr2 hbig hz2 hT2 hD2
        have g3 := g2.set0 (r2.extract v r2.size)
        by_cases hcm : ∃ t', t.drop v = 44 :: t'
        · obtain ⟨t', ht'⟩ := hcm
          have HS3 := Lib.hid (skip_yes _ p (r2.extract v r2.size) b 44 t' g3 (HD2.out.trans ht'))
          have hrs : res = some ((⟨(t.take v).toArray⟩ : ByteArray), t') := by
            rw [HTx.out, ht']; show (if (44 : UInt8) = 44 then some ((⟨(t.take v).toArray⟩ : ByteArray), t') else none) = _; rw [if_pos rfl]
          have HR := Lib.hid hrs
          clear ht' hbn2 hrs
          go_wp2_with (go_at_call 46; refine HS3.out.mono ?_)
          rintro e w3 ⟨rfl, ⟨r4, hr4, g4⟩, o3⟩
          have HR4 := Lib.hid hr4
          clear hr4
          go_wp2
          go_ret
          exact readSome (v := r2.extract 0 v) (by rw [HR.out, show r2.extract 0 v = ⟨(t.take v).toArray⟩ from string_eq HT2.out]) HR4.out g4 (((o1.trans o2).trans (Only.set _ _ _ _)).trans o3)
        · have HS3 := Lib.hid (skip_no _ p (r2.extract v r2.size) b 44 g3 (fun t' e => hcm ⟨t', by rw [← HD2.out, e]⟩))
          have hres : res = none := by
            rw [HTx.out]
            cases hdv : t.drop v with
            | nil => rfl
            | cons d t' => simp only; rw [if_neg (fun e => hcm ⟨t', by rw [hdv, e]⟩)]
          have HR := Lib.hid hres
          clear hres hcm hbn2
          go_wp2_with (go_at_call 46; refine HS3.out.mono ?_)
          rintro e w3 ⟨rfl, g4, o3⟩
          go_wp2
          go_ret
          exact readNone HR.out (((o1.trans o2).trans (Only.set _ _ _ _)).trans o3) g4
    · have hres : res = none := by
        have : numP 9223372036854775807 58 r.data.toList = none := by
          unfold numP; rw [hdp]
          cases rest with
          | nil => rfl
          | cons d t => simp only; rw [if_neg (fun e => hc ⟨t, by rw [e]⟩)]
        rw [hres0]; unfold textP; rw [this]
      clear hres0
      have HR := Lib.hid hres
      clear hres hdp
      go_enter Tryd.func27, Tryd.ntmps27
      go_wp2_with (go_at_call 45; refine HD.out.mono ?_)
      rintro e w1 ⟨o1, rfl, r1, hr1, g1⟩
      have HS := Lib.hid (skip_no w1 p r1 b 58 g1 (fun t e => hc ⟨t, by rw [← hr1, e]⟩))
      clear hr1 hc
      go_wp2_with (go_at_call 46; refine HS.out.mono ?_)
      rintro e w2 ⟨rfl, g2, o2⟩
      go_wp2
      go_ret
      exact readNone HR.out (o1.trans o2) g2
end Go.Proofs.YtonfkmoocgpleaaDoor
