/- The law WireBack, walked. -/
import Derived.Test.YtonfkmoocgpleaaDoorEqual
namespace Go.Proofs.YtonfkmoocgpleaaDoor
open Go.RowKit

theorem VRow.below {w w' : World} {n₀ : Nat} {v : Value} {xs : List V} (h : VRow w n₀ v xs) (hb : Below n₀ w w') : VRow w' n₀ v xs := by
  obtain ⟨x, cap, rfl, hc⟩ := h
  refine ⟨x, cap, rfl, fun j hj => ?_⟩
  obtain ⟨b, off, lv, tv, hlt, e, hv, c0, c1, c2, c3, c4⟩ := hc j hj
  exact ⟨b, off, lv, tv, hlt, e, hv.below hb, (hb.cell (p := ⟨b, _, none⟩) hlt).trans c0, (hb.cell (p := ⟨b, _, none⟩) hlt).trans c1, (hb.cell (p := ⟨b, _, none⟩) hlt).trans c2, (hb.cell (p := ⟨b, _, none⟩) hlt).trans c3, (hb.cell (p := ⟨b, _, none⟩) hlt).trans c4⟩
theorem VRow.mono {w : World} {n₀ n₁ : Nat} {v : Value} {xs : List V} (h : VRow w n₀ v xs) (hn : n₀ ≤ n₁) : VRow w n₁ v xs := by
  obtain ⟨x, cap, rfl, hc⟩ := h
  refine ⟨x, cap, rfl, fun j hj => ?_⟩
  obtain ⟨b, off, lv, tv, hlt, e, hv, cs⟩ := hc j hj
  exact ⟨b, off, lv, tv, by omega, e, hv.mono hn, cs⟩
theorem VRow.kept {w w' : World} {v : Value} {xs : List V} (h : VRow w w.heap.size v xs) (hb : Kept w w') : VRow w' w'.heap.size v xs := (h.below hb).mono hb.size

theorem V.enc_len {v : V} (hw : v.wf) (hf : v.fits) : v.enc.length ≤ 500000 := by
  obtain ⟨f1, f2, f3, f4⟩ := hf
  have hn := numOf_le v.n hw.2.1.1 hw.2.1.2
  unfold V.enc
  have hk : ∀ k, (v.encK k).length ≤ 500000 := fun k => by
    match k with
    | 0 => have := encInt_len (numOf v.n) (by omega) (by omega); show (encInt _).length ≤ _; omega
    | 1 => have := encInt_len v.n hw.2.1.1 hw.2.1.2; show (encInt _).length ≤ _; omega
    | 2 => have := encS_len v.s (by omega); show (encS _).length ≤ _; omega
    | 3 =>
      have h1 := flat_len encInt 22 v.l (fun x hx => encInt_len x (hw.2.2.1 x hx).1 (hw.2.2.1 x hx).2) v.l.length (Nat.le_refl _)
      have h2 := Lib.itoa_length_le v.l.length (by omega) (by omega)
      rw [List.take_length] at h1
      show (encList _ _).length ≤ _
      unfold encList
      simp only [List.length_append, List.length_cons, List.length_nil]; omega
    | k + 4 =>
      have h1 := flat_len encS 1023 v.t (fun x hx => encS_len x (by have := f4 x hx; omega)) v.t.length (Nat.le_refl _)
      have h2 := Lib.itoa_length_le v.t.length (by omega) (by omega)
      rw [List.take_length] at h1
      show (encList _ _).length ≤ _
      unfold encList
      simp only [List.length_append, List.length_cons, List.length_nil]; omega
  exact hk _

/-- Encodings one behind the other. -/
def encAll (xs : List V) : List UInt8 := (xs.map V.enc).flatten
theorem encAll_snoc (xs : List V) (k : Nat) (h : k < xs.length) : encAll (xs.take (k + 1)) = encAll (xs.take k) ++ xs[k].enc := flat_take V.enc xs k h
theorem encAll_cons (xs : List V) (k : Nat) (h : k < xs.length) : encAll (xs.drop k) = xs[k].enc ++ encAll (xs.drop (k + 1)) := by
  unfold encAll
  rw [List.drop_eq_getElem_cons h, List.map_cons, List.flatten_cons]
theorem encAll_len (xs : List V) (h : ∀ x ∈ xs, x.wf ∧ x.fits) (k : Nat) (hk : k ≤ xs.length) : (encAll (xs.take k)).length ≤ k * 500000 := flat_len V.enc 500000 xs (fun x hx => V.enc_len (h x hx).1 (h x hx).2) k hk
theorem encAll_drop (xs : List V) (h : ∀ x ∈ xs, x.wf ∧ x.fits) (k : Nat) : (encAll (xs.drop k)).length ≤ xs.length * 500000 := by
  have h1 := encAll_len xs h xs.length (Nat.le_refl _)
  rw [List.take_length] at h1
  refine Nat.le_trans ?_ h1
  unfold encAll
  conv => rhs; rw [← List.take_append_drop k xs, List.map_append, List.flatten_append, List.length_append]
  omega
theorem VRow.wf {w : World} {n₀ : Nat} {v : Value} {xs : List V} (h : VRow w n₀ v xs) : ∀ x ∈ xs, x.wf := fun x hx => by
  obtain ⟨y, cap, rfl, hc⟩ := h
  obtain ⟨j, hj, rfl⟩ := List.getElem_of_mem hx
  obtain ⟨b, off, lv, tv, hlt, e, hv, _⟩ := hc j hj
  exact hv.2.2

theorem left_at (w : World) (p : Nat) (r : ByteArray) (h : RAt 53 w p r false) : Calls Tryd.prog 35 #[.pointer (some ⟨p, 0, none⟩)] w fun e w' => e = .returned (.int .i64 r.size) ∧ w = w' := rLeft_any w p r false h
theorem done_at (w : World) (p : Nat) (r : ByteArray) (h : RAt 53 w p r false) : Calls Tryd.prog 37 #[.pointer (some ⟨p, 0, none⟩)] w fun e w' => e = .returned (.bool r.toList.isEmpty) ∧ w = w' :=
  (rDone_any w p r false h).mono fun _ _ hh => ⟨by rw [hh.1, Lib.toList_data]; rfl, hh.2⟩
theorem AtRest.at {w : World} {p : Nat} {r : ByteArray} (h : AtRest w p r.data.toList) : RAt 53 w p r false := by
  obtain ⟨r', h1, h2⟩ := h
  rwa [string_eq h1] at h2

def TrueKept (w : World) (e : Ending) (w' : World) : Prop := e = .returned (.bool true) ∧ Kept w w'

set_option maxRecDepth 100000 in
set_option maxHeartbeats 1000000 in
theorem back_any (v : Value) (xs : List V) (tail : ByteArray) (w : World) (ht : Tab w) (hl : xs.length ≤ 9223372036854775807) (hv : VRow w w.heap.size v xs) (hts : tail.size ≤ 9223372036854775807) :
    Calls Tryd.prog 5 #[v, .string tail] w (TrueKept w) := by
  have HS := Lib.hid (small_any _ ht)
  have HWf := Lib.hid hv.wf
  go_enter Tryd.func5, Tryd.ntmps5
  go_wp2_with (go_at_call 8; refine HS.out.mono ?_)
  rintro e w1 ⟨rfl, b1⟩
  have HF := Lib.hid (few_any v xs w1 hl (hv.kept b1))
  go_wp2_with (go_at_call 9; refine HF.out.mono ?_)
  rintro e w2 ⟨⟨m, rfl⟩, b, rfl, hfit⟩
  have k2 : Kept w (w1.drewN m) := below_drewN b1 m
  obtain ⟨w2, hw2⟩ : ∃ w2, w2 = w1.drewN m := ⟨_, rfl⟩
  rw [← hw2] at k2 ⊢
  clear hw2 b1 HF HS
  cases b
  · clear hfit
    go_wp2
    go_ret
    exact ⟨rfl, k2⟩
  · obtain ⟨h20, hfits⟩ := hfit rfl
    have HFit := Lib.hid (fun x hx => And.intro (HWf.out x hx) (hfits x hx) : ∀ x ∈ xs, x.wf ∧ x.fits)
    clear hfit hfits
    by_cases h4 : 400 < tail.size
    · have e4 : (400 : Int) < tail.size := by omega
      go_wp2
      go_ret
      exact ⟨rfl, k2⟩
    · have e4 : (tail.size : Int) ≤ 400 := by omega
      obtain ⟨x, cap, rfl, hc⟩ := hv
      have HC := Lib.hid hc
      clear hc
      go_wp2
      go_loopw [6, 7] (fun sv iv wr => ∃ (k : Nat) (s : ByteArray), iv = .int .i64 k ∧ sv = .string s ∧ k ≤ xs.length ∧ Hid (s.data.toList = encAll (xs.take k)) ∧ s.size ≤ k * 500000 ∧ Kept w wr) (fun _ iv _ => xs.length - (intOf iv).toNat)
      case atStart => exact ⟨0, ⟨#[]⟩, rfl, rfl, Nat.zero_le _, rfl, Nat.zero_le _, k2⟩
      case round =>
        clear k2 m
        obtain ⟨k, s, rfl, rfl, hk, hs, hsz, kr⟩ := hrel
        by_cases hlt : k < xs.length
        · obtain ⟨b, off, lv, tv, hb, rfl, hvv, c0, c1, c2, c3, c4⟩ := HC.out k hlt
          have d0 := (Below.cell (p := ⟨b, off + k * 5, none⟩) kr hb).trans c0
          have d1 := (Below.cell (p := ⟨b, off + k * 5 + 1, none⟩) kr hb).trans c1
          have d2 := (Below.cell (p := ⟨b, off + k * 5 + 2, none⟩) kr hb).trans c2
          have d3 := (Below.cell (p := ⟨b, off + k * 5 + 3, none⟩) kr hb).trans c3
          have d4 := (Below.cell (p := ⟨b, off + k * 5 + 4, none⟩) kr hb).trans c4
          have hel := V.enc_len (HFit.out xs[k] (List.getElem_mem _)).1 (HFit.out xs[k] (List.getElem_mem _)).2
          have HW := Lib.hid (write_any xs[k] lv tv wr (ht.kept kr) ((hvv.below kr).mono kr.size) (HFit.out xs[k] (List.getElem_mem _)).2)
          have HN := Lib.hid (encAll_snoc xs k hlt)
          obtain ⟨z, hz⟩ : ∃ z, xs[k] = z := ⟨_, rfl⟩
          rw [hz] at d0 d1 d2 hel HW HN
          clear c0 c1 c2 c3 c4 hvv hz hb
          have h20k : k * 500000 ≤ 20 * 500000 := Nat.mul_le_mul (by omega) (Nat.le_refl _)
          have hadd : ¬ 9223372036854775807 < s.size + z.enc.length := by omega
          go_wp2_with (go_at_call 39; refine HW.out.mono ?_)
          rintro e w3 ⟨rfl, b3⟩
          go_wp2
          go_roundw
          case rel =>
            refine ⟨k + 1, _, by go_num, rfl, by omega, ?_, ?_, kr.trans b3⟩
            · show _ = _
              rw [data_append, HN.out, hs.out]
            · rw [ByteArray.size_append]
              show s.size + z.enc.length ≤ _
              omega
          case measure => simp only [intOf]; omega
        · have hke : k = xs.length := by omega
          have hs2 : s.data.toList = encAll xs := by rw [hs.out, hke, List.take_length]
          have h20k : k * 500000 ≤ 20 * 500000 := Nat.mul_le_mul (by omega) (Nat.le_refl _)
          have hadd : ¬ 9223372036854775807 < s.size + tail.size := by omega
          have HS2 := Lib.hid hs2
          have hz0 : s.size ≤ 10000000 := by omega
          clear hke hs2 hs
          go_wp2_with (go_at_call 20; refine (rOpen_any _ _).mono ?_)
          rintro e w3 ⟨rfl, g3, b3⟩
          have hp0 : w.heap.size ≤ wr.heap.size := kr.size
          have k3 := kr.trans b3
          obtain ⟨p, hp⟩ : ∃ p, p = wr.heap.size := ⟨_, rfl⟩
          rw [← hp] at g3 hp0 ⊢
          have hA0 : Hid (AtRest w3 p (encAll (xs.drop 0) ++ tail.data.toList)) := ⟨_, by rw [data_append, HS2.out]; rfl, g3⟩
          clear hp b3 kr g3 HS2 hadd
          go_wp2
          go_loopw [9] (fun iv wr => ∃ (k : Nat), iv = .int .i64 k ∧ k ≤ xs.length ∧ Hid (AtRest wr p (encAll (xs.drop k) ++ tail.data.toList)) ∧ Kept w wr) (fun iv _ => xs.length - (intOf iv).toNat)
          case atStart => exact ⟨0, rfl, Nat.zero_le _, hA0, k3⟩
          case round =>
            clear hA0 k3 hlt h20k hk
            obtain ⟨i, rfl, hi, hA, kr⟩ := hrel
            by_cases hli : i < xs.length
            · obtain ⟨b, off, lv, tv, hb, rfl, hvv, c0, c1, c2, c3, c4⟩ := HC.out i hli
              have d0 := (Below.cell (p := ⟨b, off + i * 5, none⟩) kr hb).trans c0
              have d1 := (Below.cell (p := ⟨b, off + i * 5 + 1, none⟩) kr hb).trans c1
              have d2 := (Below.cell (p := ⟨b, off + i * 5 + 2, none⟩) kr hb).trans c2
              have d3 := (Below.cell (p := ⟨b, off + i * 5 + 3, none⟩) kr hb).trans c3
              have d4 := (Below.cell (p := ⟨b, off + i * 5 + 4, none⟩) kr hb).trans c4
              have hlen : (xs[i].enc ++ (encAll (xs.drop (i + 1)) ++ tail.data.toList)).length ≤ 1000000000 := by
                have h1 := encAll_drop xs HFit.out i
                rw [encAll_cons xs i hli] at h1
                have h2 : xs.length * 500000 ≤ 20 * 500000 := Nat.mul_le_mul h20 (Nat.le_refl _)
                have h3 : tail.data.toList.length = tail.size := rfl
                simp only [List.length_append] at h1 ⊢
                omega
              have hA2 : AtRest wr p (xs[i].enc ++ (encAll (xs.drop (i + 1)) ++ tail.data.toList)) := by
                have := hA.out
                rwa [encAll_cons xs i hli, List.append_assoc] at this
              have HE := Lib.hid (equal_yes xs[i] lv tv wr p (encAll (xs.drop (i + 1)) ++ tail.data.toList) ((hvv.below kr).mono hp0) hA2 hlen)
              obtain ⟨z, hz⟩ : ∃ z, xs[i] = z := ⟨_, rfl⟩
              rw [hz] at d0 d1 d2 HE
              clear c0 c1 c2 c3 c4 hvv hz hb hA2 hlen hA
              go_wp2_with (go_at_call 40; refine HE.out.mono ?_)
              rintro e w4 ⟨rfl, hA4, o4⟩
              have HA4 := Lib.hid hA4
              clear hA4
              go_wp2
              go_roundw
              case rel => exact ⟨i + 1, by go_num, by omega, HA4, kr.only o4 hp0⟩
              case measure => simp only [intOf]; omega
            · have hie : i = xs.length := by omega
              have hAt : AtRest wr p tail.data.toList := by
                have := hA.out
                rw [hie, List.drop_length] at this
                exact this
              have HL := Lib.hid (left_at wr p tail hAt.at)
              have HD := Lib.hid (done_at wr p tail hAt.at)
              clear hie hAt hA
              go_wp2_with (go_at_call 35; refine HL.out.mono ?_)
              rintro e w4 ⟨rfl, rfl⟩
              go_wp2_with (go_at_call 37; refine HD.out.mono ?_)
              rintro e w4 ⟨rfl, rfl⟩
              go_wp2
              go_ret
              exact ⟨ret_bool (by simp), kr⟩
end Go.Proofs.YtonfkmoocgpleaaDoor
