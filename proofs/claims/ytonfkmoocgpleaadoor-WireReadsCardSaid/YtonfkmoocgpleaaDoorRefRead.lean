/- The reference's reader: single values. -/
import Derived.Test.YtonfkmoocgpleaaDoorRefBack
namespace Go.Proofs.YtonfkmoocgpleaaDoor
open Go.RowKit

/-- What a method of the reference leaves. -/
def RPost {α : Type} (enc : α → Value) (zero : Value) (w : World) (p : Nat) (b : Bool) (res : Option (α × List UInt8)) (e : Ending) (w' : World) : Prop :=
  Only p w w' ∧ match res with
  | some (v, rest) => e = .returned (enc v) ∧ ∃ r', r'.data.toList = rest ∧ RAt 55 w' p r' b
  | none => e = .returned zero ∧ RAt 55 w' p ⟨#[]⟩ true
theorem rSome {α : Type} {enc : α → Value} {zero : Value} {w w' : World} {p : Nat} {b : Bool} {res : Option (α × List UInt8)} {v : α} {rest : List UInt8} {r' : ByteArray} (hres : res = some (v, rest)) (hr' : r'.data.toList = rest) (hr : RAt 55 w' p r' b) (ho : Only p w w') : RPost enc zero w p b res (.returned (enc v)) w' := by
  subst hres; exact ⟨ho, rfl, r', hr', hr⟩
theorem rNone {α : Type} {enc : α → Value} {zero : Value} {w w' : World} {p : Nat} {b : Bool} {res : Option (α × List UInt8)} (hres : res = none) (ho : Only p w w') (hr : RAt 55 w' p ⟨#[]⟩ true) : RPost enc zero w p b res (.returned zero) w' := by
  subst hres; exact ⟨ho, rfl, hr⟩

theorem rfail_any (w : World) (p : Nat) (r : ByteArray) (b : Bool) (h : RAt 55 w p r b) :
    Calls Tryd.prog 51 #[.pointer (some ⟨p, 0, none⟩)] w fun e w' => e = .returned (.int .i64 0) ∧ RAt 55 w' p ⟨#[]⟩ true ∧ Only p w w' := by
  have c0 := h.cell0
  have c1 := h.cell1
  have f0 := h.frozen0
  have f1 := h.frozen1
  go_enter Tryd.func51, Tryd.ntmps51
  go_wp2
  go_ret
  exact ⟨rfl, (h.set0 _).set1 _, (Only.set _ _ _ _).trans (Only.set _ _ _ _)⟩

theorem close_any_yes (w : World) (p : Nat) (r : ByteArray) (b : Bool) (c : UInt8) (t : List UInt8) (h : RAt 55 w p r b) (hr : r.data.toList = c :: t) :
    Calls Tryd.prog 52 #[.pointer (some ⟨p, 0, none⟩), .int .u8 c.toNat] w fun e w' => e = .returned (.bool true) ∧ (∃ r', r'.data.toList = t ∧ RAt 55 w' p r' b) ∧ Only p w w' := by
  have c0 := h.cell0
  have c1 := h.cell1
  have f0 := h.frozen0
  have f1 := h.frozen1
  have hsz : r.size = t.length + 1 := by show r.data.toList.length = _; rw [hr]; rfl
  have h0 : 0 < r.size := by omega
  have h0i : (1 : Int) ≤ r.size := by omega
  have h0e : ((r.size : Int) == 0) = false := by rw [beq_eq_false_iff_ne]; omega
  have h0n : ¬ (r.size : Int) = 0 := by omega
  have hc : r[0] = c := by
    have : r.data.toList[0]'(by rw [hr]; simp) = c := by simp only [hr]; rfl
    exact this
  have hq : ((r[0].toNat : Int) != (c.toNat : Int)) = false := by rw [hc]; simp
  have ht : (r.extract 1 r.size).data.toList = t := by
    rw [Lib.extract_data, hr]
    simp only [List.drop_succ_cons, List.drop_zero]
    exact List.take_of_length_le (by omega)
  have HT := Lib.hid ht
  clear ht hsz hr hc
  go_enter Tryd.func52, Tryd.ntmps52
  go_wp2
  go_ret
  exact ⟨rfl, ⟨_, HT.out, h.set0 _⟩, Only.set _ _ _ _⟩

theorem close_any_no (w : World) (p : Nat) (r : ByteArray) (b : Bool) (c : UInt8) (h : RAt 55 w p r b) (hr : ∀ t, r.data.toList ≠ c :: t) :
    Calls Tryd.prog 52 #[.pointer (some ⟨p, 0, none⟩), .int .u8 c.toNat] w fun e w' => e = .returned (.bool false) ∧ RAt 55 w' p ⟨#[]⟩ true ∧ Only p w w' := by
  have c0 := h.cell0
  have c1 := h.cell1
  have HF := Lib.hid (rfail_any w p r b h)
  cases hl : r.data.toList with
  | nil =>
    have hsz : r.size = 0 := by show r.data.toList.length = _; rw [hl]; rfl
    have h0e : ((r.size : Int) == 0) = true := by rw [hsz]; rfl
    have h0i : (r.size : Int) = 0 := by omega
    clear hl hr hsz
    go_enter Tryd.func52, Tryd.ntmps52
    go_wp2_with (go_at_call 51; refine HF.out.mono ?_; rintro e w1 ⟨rfl, h1, o1⟩)
    go_ret
    exact ⟨rfl, h1, o1⟩
  | cons d t =>
    have hsz : r.size = t.length + 1 := by show r.data.toList.length = _; rw [hl]; rfl
    have h0 : 0 < r.size := by omega
    have h0e : ((r.size : Int) == 0) = false := by rw [beq_eq_false_iff_ne]; omega
    have h0n : ¬ (r.size : Int) = 0 := by omega
    have hc : r[0] = d := by
      have : r.data.toList[0]'(by rw [hl]; simp) = d := by simp only [hl]; rfl
      exact this
    have hne : d ≠ c := fun e => hr t (by rw [hl, e])
    have hq : ((r[0].toNat : Int) != (c.toNat : Int)) = true := by
      rw [hc, bne_iff_ne]; intro e; exact hne (UInt8.toNat_inj.1 (by omega))
    clear hsz hl hr hc hne
    go_enter Tryd.func52, Tryd.ntmps52
    go_wp2_with (go_at_call 51; refine HF.out.mono ?_; rintro e w1 ⟨rfl, h1, o1⟩)
    go_ret
    exact ⟨rfl, h1, o1⟩

theorem byte_ne (a c : UInt8) (h : a ≠ c) : ((a.toNat : Int) != (c.toNat : Int)) = true := by
  rw [bne_iff_ne]; intro e; exact h (UInt8.toNat_inj.1 (by omega))
theorem byte_eq (a c : UInt8) (h : a = c) : ((a.toNat : Int) != (c.toNat : Int)) = false := by rw [h]; simp
theorem extract_head (r : ByteArray) (k : Nat) : (r.extract 0 k).data.toList = r.data.toList.take k := by
  rw [Lib.extract_data, List.drop_zero, Nat.sub_zero]

set_option maxRecDepth 100000 in
set_option maxHeartbeats 1000000 in
theorem ahead_yes (w : World) (p : Nat) (r : ByteArray) (b : Bool) (c : UInt8) (v : Int) (rest : List UInt8) (hc : dg c = false) (hm : c ≠ 45) (h : RAt 55 w p r b)
    (hi : intC c r.data.toList = some (v, rest)) :
    Calls Tryd.prog 50 #[.pointer (some ⟨p, 0, none⟩), .int .u8 c.toNat] w (RPost (Value.int .i64) (.int .i64 0) w p b (some (v, rest))) := by
  have c0 := h.cell0
  have c1 := h.cell1
  have f0 := h.frozen0
  obtain ⟨hl, hv⟩ := intC_some hi
  have hlen := Lib.itoa_length_le v hv.1 hv.2
  obtain ⟨N, hN⟩ : ∃ N, N = (Lib.itoa v).length := ⟨_, rfl⟩
  have hsz : r.size = N + (1 + rest.length) := by
    have : r.size = r.data.toList.length := rfl
    rw [this, hl, hN]; simp; omega
  have hNs : N < r.size := by omega
  have hN21 : N ≤ 21 := by omega
  have hNe : r[N] = c := by
    have : r.data.toList[N]'hNs = r[N] := rfl
    rw [← this]; simp only [hl, hN]
    rw [List.getElem_append_right (Nat.le_refl _)]; simp
  have hbefore : ∀ k (hk : k < r.size), k < N → r[k] ≠ c := fun k hk hkN => by
    have : r.data.toList[k]'hk = r[k] := rfl
    rw [← this]; simp only [hl]
    rw [List.getElem_append_left (by omega)]
    exact itoa_no c hc hm v _ (List.getElem_mem _)
  have hhd : (r.extract 0 N).data.toList = Lib.itoa v := by rw [extract_head, hl, hN, List.take_left]
  have htl : (r.extract (N + 1) r.size).data.toList = rest := by
    rw [extract_rest, hl, hN, ← List.drop_drop, List.drop_left]; rfl
  have hq := byte_eq _ _ hNe
  have HB := Lib.hid (fun W => back_yes v hv (r.extract 0 N) hhd W)
  have HBf := Lib.hid hbefore
  have HT := Lib.hid htl
  clear hi hl hlen hN hsz hNe hbefore hhd htl hv
  go_enter Tryd.func50, Tryd.ntmps50
  go_wp2
  go_loop [5] (fun iv => ∃ k : Nat, iv = .int .i64 k ∧ k ≤ N) (fun iv => N - (intOf iv).toNat)
  case atStart => exact ⟨0, rfl, Nat.zero_le _⟩
  case round =>
    obtain ⟨k, rfl, hk⟩ := hrel
    by_cases hkN : k < N
    · have hks : k < r.size := by omega
      have hk21 : (k : Int) < 21 := by omega
      have hkq := byte_ne _ _ (HBf.out k hks hkN)
      go_wp2
      go_round
      case rel => exact ⟨k + 1, by go_num, by omega⟩
      case measure => simp only [intOf]; omega
    · obtain rfl : k = N := by omega
      by_cases h21 : k < 21
      all_goals
        go_wp2_with (go_at_call 61; refine (HB.out _).mono ?_; rintro e w1 ⟨rfl, b1⟩; have g1 := h.kept b1; have d0 := g1.cell0; have e0 := g1.frozen0)
        go_ret
        exact rSome rfl HT.out (g1.set0 _) ((Only.of_kept b1).trans (Only.set _ _ _ _))

set_option maxRecDepth 100000 in
set_option maxHeartbeats 1000000 in
theorem ahead_no (w : World) (p : Nat) (r : ByteArray) (b : Bool) (c : UInt8) (hc : dg c = false) (h : RAt 55 w p r b) (hrz : r.size ≤ 1000000000)
    (hi : intC c r.data.toList = none) :
    Calls Tryd.prog 50 #[.pointer (some ⟨p, 0, none⟩), .int .u8 c.toNat] w (RPost (Value.int .i64) (.int .i64 0) w p b none) := by
  have c0 := h.cell0
  have c1 := h.cell1
  have f0 := h.frozen0
  have hback : ∀ k (hk : k < r.size), k ≤ 21 → r[k] = c → ∀ W, Calls Tryd.prog 61 #[.string (r.extract 0 k)] W (BackNo W) := fun k hk hk21 hkc W =>
    back_no _ (by rw [ByteArray.size_extract]; omega) (fun u hu e => by
      rw [extract_head] at e
      have h2 : r.data.toList = Lib.itoa u ++ c :: r.data.toList.drop (k + 1) := by
        rw [e]
        have h3 : r.data.toList[k]'hk = c := hkc
        rw [← h3, ← List.drop_eq_getElem_cons, List.take_append_drop]
      rw [h2, intC_back c hc u _ hu] at hi
      cases hi) W
  have HB := Lib.hid hback
  have HF := Lib.hid (rfail_any w p r b h)
  clear hi hback
  go_enter Tryd.func50, Tryd.ntmps50
  go_wp2
  go_loop [5] (fun iv => ∃ k : Nat, iv = .int .i64 k ∧ k ≤ r.size ∧ k ≤ 21) (fun iv => r.size - (intOf iv).toNat)
  case atStart => exact ⟨0, rfl, Nat.zero_le _, Nat.zero_le _⟩
  case round =>
    obtain ⟨k, rfl, hk, hk21⟩ := hrel
    by_cases hks : k < r.size
    · by_cases hkc : r[k] = c
      · have hq := byte_eq _ _ hkc
        have HB2 := Lib.hid (HB.out k hks hk21 hkc)
        clear hkc
        by_cases h21 : k < 21
        all_goals
          go_wp2_with (first | (go_at_call 61; refine (HB2.out _).mono ?_; rintro e w1 ⟨⟨v1, rfl⟩, b1⟩; have g1 := h.kept b1; have HF1 := Lib.hid (rfail_any w1 p r b g1)) | (go_at_call 51; refine HF1.out.mono ?_; rintro e w2 ⟨rfl, g2, o2⟩))
          go_ret
          exact rNone rfl ((Only.of_kept b1).trans o2) g2
      · have hq := byte_ne _ _ hkc
        clear hkc
        by_cases h21 : k < 21
        · go_wp2
          go_round
          case rel => exact ⟨k + 1, by go_num, by omega, by omega⟩
          case measure => simp only [intOf]; omega
        · go_wp2_with (go_at_call 51; refine HF.out.mono ?_; rintro e w2 ⟨rfl, g2, o2⟩)
          go_ret
          exact rNone rfl o2 g2
    · go_wp2_with (go_at_call 51; refine HF.out.mono ?_; rintro e w2 ⟨rfl, g2, o2⟩)
      go_ret
      exact rNone rfl o2 g2

theorem ahead_any (w : World) (p : Nat) (r : ByteArray) (b : Bool) (c : UInt8) (hc : dg c = false) (hm : c ≠ 45) (h : RAt 55 w p r b) (hrz : r.size ≤ 1000000000) :
    Calls Tryd.prog 50 #[.pointer (some ⟨p, 0, none⟩), .int .u8 c.toNat] w (RPost (Value.int .i64) (.int .i64 0) w p b (intC c r.data.toList)) := by
  cases hi : intC c r.data.toList with
  | none => exact ahead_no w p r b c hc h hrz hi
  | some vr => exact ahead_yes w p r b c vr.1 vr.2 hc hm h hi

theorem fInt_any (w : World) (p : Nat) (r : ByteArray) (b : Bool) (h : RAt 55 w p r b) (hrz : r.size ≤ 1000000000) :
    Calls Tryd.prog 26 #[.pointer (some ⟨p, 0, none⟩)] w (RPost (Value.int .i64) (.int .i64 0) w p b (intP r.data.toList)) := by
  have HA := Lib.hid (ahead_any w p r b 59 (by decide) (by decide) h hrz)
  rw [intC_59] at HA
  obtain ⟨res, hres⟩ : ∃ res, res = intP r.data.toList := ⟨_, rfl⟩
  rw [← hres] at HA ⊢
  clear hres
  go_enter Tryd.func26, Tryd.ntmps26
  go_wp2_with (go_at_call 50; refine HA.out.mono ?_)
  rintro e w1 ⟨o1, h1⟩
  cases res with
  | none =>
    obtain ⟨rfl, g1⟩ := h1
    go_wp2
    go_ret
    exact rNone rfl o1 g1
  | some x =>
    obtain ⟨v, rest⟩ := x
    obtain ⟨rfl, r', hr', g1⟩ := h1
    have HR := Lib.hid hr'
    clear hr'
    go_wp2
    go_ret
    exact rSome rfl HR.out g1 o1

set_option maxRecDepth 100000 in
theorem number_read (w : World) (p : Nat) (r : ByteArray) (b : Bool) (c : UInt8) (hc : dg c = false) (hm : c ≠ 45) (h : RAt 55 w p r b) (hrz : r.size ≤ 1000000000) :
    Calls Tryd.prog 47 #[.pointer (some ⟨p, 0, none⟩), .int .u8 c.toNat] w (RPost (fun n : Nat => .int .i64 n) (.int .i64 0) w p b (numP 9223372036854775807 c r.data.toList)) := by
  have HA := Lib.hid (ahead_any w p r b c hc hm h hrz)
  rw [num_of_int]
  obtain ⟨res, hres⟩ : ∃ res, res = intC c r.data.toList := ⟨_, rfl⟩
  rw [← hres] at HA ⊢
  clear hres
  cases res with
  | none =>
    go_enter Tryd.func47, Tryd.ntmps47
    go_wp2_with (go_at_call 50; refine HA.out.mono ?_)
    rintro e w1 ⟨o1, rfl, g1⟩
    go_wp2
    go_ret
    exact rNone rfl o1 g1
  | some x =>
    obtain ⟨v, rest⟩ := x
    by_cases hv : v < 0
    · simp only [hv, if_true]
      go_enter Tryd.func47, Tryd.ntmps47
      go_wp2_with (go_at_call 50; refine HA.out.mono ?_)
      rintro e w1 ⟨o1, rfl, r', hr', g1⟩
      have HF := Lib.hid (rfail_any w1 p r' b g1)
      clear hr'
      go_wp2_with (go_at_call 51; refine HF.out.mono ?_; rintro e w2 ⟨rfl, g2, o2⟩)
      go_ret
      exact rNone rfl (o1.trans o2) g2
    · obtain ⟨n, rfl⟩ : ∃ n : Nat, v = (n : Int) := ⟨v.toNat, by omega⟩
      simp only [hv, if_false, Int.toNat_natCast]
      clear hv
      go_enter Tryd.func47, Tryd.ntmps47
      go_wp2_with (go_at_call 50; refine HA.out.mono ?_)
      rintro e w1 ⟨o1, rfl, r', hr', g1⟩
      have HR := Lib.hid hr'
      clear hr'
      go_wp2
      go_ret
      exact rSome (enc := fun n : Nat => Value.int .i64 n) rfl HR.out g1 o1

theorem fNum_any (w : World) (p : Nat) (r : ByteArray) (b : Bool) (h : RAt 55 w p r b) (hrz : r.size ≤ 1000000000) :
    Calls Tryd.prog 24 #[.pointer (some ⟨p, 0, none⟩)] w (RPost (fun n : Nat => .int .i64 n) (.int .i64 0) w p b (numP 9223372036854775807 59 r.data.toList)) := by
  have HA := Lib.hid (number_read w p r b 59 (by decide) (by decide) h hrz)
  obtain ⟨res, hres⟩ : ∃ res, res = numP 9223372036854775807 59 r.data.toList := ⟨_, rfl⟩
  rw [← hres] at HA ⊢
  clear hres
  go_enter Tryd.func24, Tryd.ntmps24
  go_wp2_with (go_at_call 47; refine HA.out.mono ?_)
  rintro e w1 ⟨o1, h1⟩
  cases res with
  | none =>
    obtain ⟨rfl, g1⟩ := h1
    go_wp2
    go_ret
    exact rNone rfl o1 g1
  | some x =>
    obtain ⟨v, rest⟩ := x
    obtain ⟨rfl, r', hr', g1⟩ := h1
    have HR := Lib.hid hr'
    clear hr'
    go_wp2
    go_ret
    exact rSome (enc := fun n : Nat => Value.int .i64 n) rfl HR.out g1 o1
end Go.Proofs.YtonfkmoocgpleaaDoor
