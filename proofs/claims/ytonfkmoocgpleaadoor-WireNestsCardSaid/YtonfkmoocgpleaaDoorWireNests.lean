/- The law WireNests, walked. -/
import Derived.Test.YtonfkmoocgpleaaDoorWireBack
import Derived.Test.YtonfkmoocgpleaaDoorLists3
namespace Go.Proofs.YtonfkmoocgpleaaDoor
open Go.RowKit

def encB (v : V) : ByteArray := ⟨v.enc.toArray⟩
theorem encB_data (v : V) : (encB v).data.toList = v.enc := rfl
theorem encB_size (v : V) : (encB v).size = v.enc.length := rfl
theorem Text_enc (s : ByteArray) (hs : s.size ≤ 1000000000) (w : World) (ht : Tab w) : Calls Tryd.prog 14 #[.string s] w fun e w' => e = .returned (.string ⟨(encS s).toArray⟩) ∧ Kept w w' := Text_any s hs w ht
/-- The strings so far. -/
def strsOf (xs : List V) (k : Nat) : List Value := ((xs.take k).map encB).map Value.string
theorem strs_next (xs : List V) (k : Nat) (h : k < xs.length) : strsOf xs (k + 1) = strsOf xs k ++ [.string (encB xs[k])] := by
  unfold strsOf
  rw [List.take_succ_eq_append_getElem h, List.map_append, List.map_append]; rfl
theorem strs_all (xs : List V) : strsOf xs xs.length = (xs.map encB).map Value.string := by unfold strsOf; rw [List.take_length]
theorem own_kept {B : Nat} {w w' : World} {T n : Nat} {v : Value} {xs : List Value} (h : w.ownsRow B T 1 v n xs) (ho : Kept w w') : w'.ownsRow B T 1 v n xs :=
  own_only (p := w.heap.size) h (Only.of_kept ho) |> fun f => World.ownsRow.kept (row := none) h ⟨ho.os, ho.tape, ho.output, Below.size ho, fun k hk _ => Below.block ho k hk⟩ (by
    cases hv : v.ownBlock with
    | none => exact .inl rfl
    | some g => exact .inr (by simp))
theorem kept_grown {w wr w1 : World} {row : Option Nat} (h : Kept w wr) (hg : wr.grownBy w1 row) (hrow : ∀ k, row = some k → w.heap.size ≤ k) : Kept w w1 :=
  ⟨hg.os.trans h.os, hg.tape.trans h.tape, hg.output.trans h.output, Nat.le_trans h.size hg.size, fun j hj => (hg.block j (Nat.lt_of_lt_of_le hj h.size) (fun e => by have := hrow j e.symm; omega)).trans (Below.block h j hj)⟩

set_option maxRecDepth 100000 in
set_option maxHeartbeats 1000000 in
theorem nests_any (v : Value) (xs : List V) (w : World) (ht : Tab w) (hl : xs.length ≤ 9223372036854775807) (hv : VRow w w.heap.size v xs) :
    Calls Tryd.prog 7 #[v] w (TrueKept w) := by
  have HS := Lib.hid (small_any _ ht)
  have HWf := Lib.hid hv.wf
  obtain ⟨i0, hi, hz0, hz1, hz2⟩ := info_parts infoStr
  go_enter Tryd.func7, Tryd.ntmps7
  go_wp2_with (go_at_call 8; refine HS.out.mono ?_)
  rintro e w1 ⟨rfl, b1⟩
  have HF := Lib.hid (few_any v xs w1 hl (hv.kept b1))
  go_wp2_with (go_at_call 9; refine HF.out.mono ?_)
  rintro e w2 ⟨⟨m, rfl⟩, b, rfl, hfit⟩
  have k2 : Kept w (w1.drewN m) := below_drewN b1 m
  obtain ⟨w2, hw2⟩ : ∃ w2, w2 = w1.drewN m := ⟨_, rfl⟩
  rw [← hw2] at k2 ⊢
  clear hw2 b1 HF HS
  cases b
  · clear hfit
    go_wp2
    go_ret
    exact ⟨rfl, k2⟩
  · obtain ⟨h20, hfits⟩ := hfit rfl
    have HFit := Lib.hid (fun x hx => And.intro (HWf.out x hx) (hfits x hx) : ∀ x ∈ xs, x.wf ∧ x.fits)
    clear hfit hfits
    obtain ⟨x, cap, rfl, hc⟩ := hv
    have HC := Lib.hid hc
    clear hc
    go_wp2
    go_loopw [4, 5] (fun sv iv wr => ∃ (k : Nat), iv = .int .i64 k ∧ k ≤ xs.length ∧ wr.ownsRow w.heap.size 9 1 sv k (strsOf xs k) ∧ Kept w wr) (fun _ iv _ => xs.length - (intOf iv).toNat)
    case atStart => exact ⟨0, rfl, Nat.zero_le _, World.ownsRow_nil _ _ _ _, k2⟩
    case round =>
      clear k2 m
      obtain ⟨k, rfl, hk, hown, kr⟩ := hrel
      by_cases hlt : k < xs.length
      · obtain ⟨b, off, lv, tv, hb, rfl, hvv, c0, c1, c2, c3, c4⟩ := HC.out k hlt
        have d0 := (Below.cell (p := ⟨b, off + k * 5, none⟩) kr hb).trans c0
        have d1 := (Below.cell (p := ⟨b, off + k * 5 + 1, none⟩) kr hb).trans c1
        have d2 := (Below.cell (p := ⟨b, off + k * 5 + 2, none⟩) kr hb).trans c2
        have d3 := (Below.cell (p := ⟨b, off + k * 5 + 3, none⟩) kr hb).trans c3
        have d4 := (Below.cell (p := ⟨b, off + k * 5 + 4, none⟩) kr hb).trans c4
        have HW := Lib.hid (write_any xs[k] lv tv wr (ht.kept kr) ((hvv.below kr).mono kr.size) (HFit.out xs[k] (List.getElem_mem _)).2)
        have HN := Lib.hid (strs_next xs k hlt)
        obtain ⟨z, hz⟩ : ∃ z, xs[k] = z := ⟨_, rfl⟩
        rw [hz] at d0 d1 d2 HW HN
        obtain ⟨L, hL⟩ : ∃ L, strsOf xs k = L := ⟨_, rfl⟩
        rw [hL] at hown HN
        obtain ⟨y, hy⟩ : ∃ y, (⟨z.enc.toArray⟩ : ByteArray) = y := ⟨_, rfl⟩
        rw [hy] at HW
        have HY := Lib.hid hy
        clear c0 c1 c2 c3 c4 hvv hz hb hL hy
        go_wp2_with (go_at_call 39; refine HW.out.mono ?_)
        rintro e w3 ⟨rfl, b3⟩
        have hown3 := own_kept hown b3
        have k3 := kr.trans b3
        have hs3 : w.heap.size ≤ w3.heap.size := k3.size
        go_wp2_with (at_builtin; refine wpList_append_own _ rfl _ _ 23 rfl w.heap.size 9 i0 (.string ByteArray.empty) 1 16 Tryd.underlying23 hi hz0 hz1 hz2 rfl (by decide) _ _ _ rfl (hown3.alloc _) ⟨w3.heap.size, 0, none⟩ 1 1 [.string y] rfl rfl (cell_one_new _ _ _) (by simp [Value.oneCell']) (by unfold maxLen; omega) (by omega) (by simp; omega) ?_; intro v' w5 hown' hgrow _)
        have hpk : ∀ j, u4.ownBlock = some j → w.heap.size ≤ j := fun j hj => (hown3.lt j hj).1
        refine ⟨⟨k + 1, by go_num, by omega, ?_, kept_grown (k3.trans ((Below.refl _ w3).alloc (Nat.le_refl _) _)) hgrow hpk⟩, by simp only [intOf]; omega⟩
        rw [HN.out, show encB z = y from HY.out]
        exact hown'
      · have hke : k = xs.length := by omega
        have hrow : Row Value.string wr wr.heap.size u4 (xs.map encB) := Row.of_own (B := w.heap.size) (e := 9) (by
          have h := hown
          rw [hke, strs_all] at h
          rwa [List.length_map])
        have hE1 : ∀ y ∈ xs.map encB, y.size ≤ 500000 := fun y hy => by
          obtain ⟨x, hx, rfl⟩ := List.mem_map.1 hy
          exact V.enc_len (HFit.out x hx).1 (HFit.out x hx).2
        have hEl : (xs.map encB).length ≤ 100 := by rw [List.length_map]; omega
        have hTl : (encList encS (xs.map encB)).length ≤ 50002400 := by
          have h1 := flat_len encS 500023 (xs.map encB) (fun x hx => encS_big x (hE1 x hx)) (xs.map encB).length (Nat.le_refl _)
          have h2 := Lib.itoa_length_le (xs.map encB).length (by omega) (by omega)
          have h3 : (xs.map encB).length * 500023 ≤ 100 * 500023 := Nat.mul_le_mul hEl (Nat.le_refl _)
          rw [List.take_length] at h1
          unfold encList
          simp only [List.length_append, List.length_cons, List.length_nil]; omega
        have HT := Lib.hid (Texts_big u4 (xs.map encB) wr (ht.kept kr) hEl hE1 hrow)
        have hback := texts_back (xs.map encB) [] (fun y hy => by have := hE1 y hy; omega) (by omega)
        obtain ⟨T, hT⟩ : ∃ T : ByteArray, T = ⟨(encList encS (xs.map encB)).toArray⟩ := ⟨_, rfl⟩
        have hTd : T.data.toList = encList encS (xs.map encB) := by rw [hT]
        have hTz : T.size ≤ 50002400 := by
          have : T.size = T.data.toList.length := rfl
          rw [this, hTd]; exact hTl
        rw [← hTd, List.append_nil] at hback
        rw [← hT] at HT
        have HX := Lib.hid (And.intro hback hEl)
        clear hback hT hTd hTl hrow hE1 hown hEl hke
        go_wp2_with (go_at_call 18; refine HT.out.mono ?_)
        rintro e w3 ⟨rfl, b3⟩
        have k3 := kr.trans b3
        have HU := Lib.hid (Text_enc T (by omega) w3 (ht.kept k3))
        clear HT b3 kr
        go_wp2_with (go_at_call 14; refine HU.out.mono ?_)
        rintro e w4 ⟨rfl, b4⟩
        have k4 := k3.trans b4
        clear HU b4 k3
        go_wp2_with (go_at_call 20; refine (rOpen_any _ _).mono ?_)
        rintro e w5 ⟨rfl, g5, b5⟩
        have k5 := k4.trans b5
        have hp1 : w.heap.size ≤ w4.heap.size := k4.size
        obtain ⟨p, hp⟩ : ∃ p, p = w4.heap.size := ⟨_, rfl⟩
        rw [← hp] at g5 hp1 ⊢
        have hA5 : AtRest w5 p (encS T) := ⟨_, rfl, g5⟩
        have hUz : (encS T).length ≤ 1000000000 := by
          have h1 := Lib.itoa_length_le T.size (by omega) (by omega)
          have h2 : T.data.toList.length = T.size := rfl
          unfold encS encText
          simp only [List.length_append, List.length_cons, List.length_nil, h2]; omega
        have HV := Lib.hid (text_yes w5 p T (encS T) [] hA5 hUz (by
          have := text_back T [] (by omega)
          rwa [List.append_nil] at this))
        clear hp b5 k4 g5 hA5 hUz
        go_wp2_with (go_at_call 27; refine HV.out.mono ?_)
        rintro e w6 ⟨rfl, hA6, o6⟩
        have k6 := k5.only o6 hp1
        clear HV o6 k5
        go_wp2_with (go_at_call 20; refine (rOpen_any _ _).mono ?_)
        rintro e w7 ⟨rfl, g7, b7⟩
        have k7 := k6.trans b7
        have hp2 : w.heap.size ≤ w6.heap.size := k6.size
        have hA7 := hA6.kept b7
        have hpq : p < w6.heap.size := hA6.lt
        obtain ⟨q, hq⟩ : ∃ q, q = w6.heap.size := ⟨_, rfl⟩
        rw [← hq] at g7 hp2 hpq ⊢
        have HD7 := Lib.hid (done_at w7 p ⟨#[]⟩ hA7.at)
        have hB7 : AtRest w7 q T.data.toList := ⟨T, rfl, g7⟩
        have HL7 := Lib.hid (texts_yes w7 q (xs.map encB) T.data.toList [] hB7 (by show T.size ≤ _; omega) HX.out.1)
        clear hq b7 k6 g7 hA6 hA7 hB7
        go_wp2_with (go_at_call 37; refine HD7.out.mono ?_)
        rintro e w8 ⟨rfl, rfl⟩
        go_wp2_with (go_at_call 33; refine HL7.out.mono ?_)
        rintro e w8 ⟨⟨gx, gcap, rfl, hR8⟩, hA8, o8⟩
        have k8 := k7.only o8 hp2
        have HD8 := Lib.hid (done_at w8 q ⟨#[]⟩ hA8.at)
        have hlm : (xs.map encB).length = xs.length := List.length_map _
        rw [hlm] at hR8 ⊢
        obtain ⟨gy, gcap2, hge, hgc⟩ := hR8
        have HG := Lib.hid hgc
        have HGE := Lib.hid hge
        clear HD7 HL7 o8 k7 hlm hA8 hpq hgc hge
        go_wp2_with (go_at_call 37; refine HD8.out.mono ?_)
        rintro e w9 ⟨rfl, rfl⟩
        go_wp2
        go_loopw [9] (fun iv wr => ∃ (i : Nat), iv = .int .i64 i ∧ i ≤ xs.length ∧ Kept w8 wr) (fun iv _ => xs.length - (intOf iv).toNat)
        case atStart => exact ⟨0, rfl, Nat.zero_le _, Kept.refl _⟩
        case round =>
          clear hlt hk HX hTz HD8
          obtain ⟨i, rfl, hi2, kr8⟩ := hrel
          by_cases hli : i < xs.length
          · obtain ⟨gb, goff, hgb, hge2, gc⟩ := HG.out i (by rw [List.length_map]; exact hli)
            obtain rfl : gx = some ⟨gb, goff, none⟩ := (Value.slice.inj HGE.out).1.trans hge2
            have gd := (Below.cell (p := ⟨gb, goff + i, none⟩) kr8 hgb).trans gc
            rw [List.getElem_map] at gd
            obtain ⟨b, off, lv, tv, hb, rfl, hvv, c0, c1, c2, c3, c4⟩ := HC.out i hli
            have hwfz := HFit.out xs[i] (List.getElem_mem _)
            have hlen := V.enc_len hwfz.1 hwfz.2
            obtain ⟨z, hz⟩ : ∃ z, xs[i] = z := ⟨_, rfl⟩
            rw [hz] at gd c0 c1 c2 hvv hlen
            have HGd := Lib.hid gc
            have kw := k8.trans kr8
            clear hz hge2 gc hwfz HGE
            go_wp2_with (go_at_call 20; refine (rOpen_any _ _).mono ?_)
            rintro e w9 ⟨rfl, g9, b9⟩
            have k9 := kw.trans b9
            have k89 := kr8.trans b9
            have hp3 : w8.heap.size ≤ wr.heap.size := kr8.size
            have hp4 : w.heap.size ≤ wr.heap.size := kw.size
            obtain ⟨r, hr⟩ : ∃ r, r = wr.heap.size := ⟨_, rfl⟩
            rw [← hr] at g9 hp3 hp4 ⊢
            have d0 := (Below.cell (p := ⟨b, off + i * 5, none⟩) k9 hb).trans c0
            have d1 := (Below.cell (p := ⟨b, off + i * 5 + 1, none⟩) k9 hb).trans c1
            have d2 := (Below.cell (p := ⟨b, off + i * 5 + 2, none⟩) k9 hb).trans c2
            have d3 := (Below.cell (p := ⟨b, off + i * 5 + 3, none⟩) k9 hb).trans c3
            have d4 := (Below.cell (p := ⟨b, off + i * 5 + 4, none⟩) k9 hb).trans c4
            have HE := Lib.hid (equal_yes z lv tv w9 r [] ((hvv.below k9).mono hp4) ⟨encB z, by rw [List.append_nil]; rfl, g9⟩ (by rw [List.append_nil]; omega))
            clear c0 c1 c2 c3 c4 hvv hb hr gd hgb g9 b9 kw
            go_wp2_with (go_at_call 40; refine HE.out.mono ?_)
            rintro e w10 ⟨rfl, hA10, o10⟩
            have HD10 := Lib.hid (done_at w10 r ⟨#[]⟩ hA10.at)
            have k10 := k89.only o10 hp3
            clear hA10 o10 HE d0 d1 d2 d3 d4 k89
            go_wp2_with (go_at_call 37; refine HD10.out.mono ?_)
            rintro e w11 ⟨rfl, rfl⟩
            go_wp2
            go_roundw
            case rel => exact ⟨i + 1, by go_num, by omega, k10⟩
            case measure => simp only [intOf]; omega
          · go_wp2
            go_ret
            exact ⟨rfl, k8.trans kr8⟩
end Go.Proofs.YtonfkmoocgpleaaDoor
