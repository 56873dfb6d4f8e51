/- The reader: its block, and what its methods leave of it. -/
import Derived.Test.YtonfkmoocgpleaaDoorWrites
import Derived.Test.YtonfkmoocgpleaaDoorDigPlain
namespace Go.Proofs.YtonfkmoocgpleaaDoor
open Go.RowKit

/-- Block p holds a reader of this type: what is left, whether it has failed. -/
def RAt (T : TypeId) (w : World) (p : Nat) (rest : ByteArray) (bad : Bool) : Prop := w.heap[p]? = some (.cells #[.string rest, .bool bad] T (0, 0))
theorem RAt.cell0 {T : TypeId} {w : World} {p : Nat} {r : ByteArray} {b : Bool} (h : RAt T w p r b) : w.cell? ⟨p, 0, none⟩ = some (.string r) := by simp [World.cell?, show w.heap[p]? = _ from h]
theorem RAt.cell1 {T : TypeId} {w : World} {p : Nat} {r : ByteArray} {b : Bool} (h : RAt T w p r b) : w.cell? ⟨p, 1, none⟩ = some (.bool b) := by simp [World.cell?, show w.heap[p]? = _ from h]
theorem RAt.frozen0 {T : TypeId} {w : World} {p : Nat} {r : ByteArray} {b : Bool} (h : RAt T w p r b) : w.frozen? ⟨p, 0, none⟩ = false := by simp [World.frozen?, show w.heap[p]? = _ from h]
theorem RAt.frozen1 {T : TypeId} {w : World} {p : Nat} {r : ByteArray} {b : Bool} (h : RAt T w p r b) : w.frozen? ⟨p, 1, none⟩ = false := by simp [World.frozen?, show w.heap[p]? = _ from h]
theorem RAt.lt {T : TypeId} {w : World} {p : Nat} {r : ByteArray} {b : Bool} (h : RAt T w p r b) : p < w.heap.size := (Array.getElem?_eq_some_iff.1 h).1
theorem RAt.set0 {T : TypeId} {w : World} {p : Nat} {r : ByteArray} {b : Bool} (h : RAt T w p r b) (r' : ByteArray) : RAt T (w.setCell ⟨p, 0, none⟩ (.string r')) p r' b := by
  obtain ⟨hlt, hk⟩ := Array.getElem?_eq_some_iff.1 h
  show (w.heap.modify p _)[p]? = _
  rw [Array.getElem?_eq_getElem (by rw [Array.size_modify]; exact hlt), Array.getElem_modify_self, hk]
  rfl
theorem RAt.set1 {T : TypeId} {w : World} {p : Nat} {r : ByteArray} {b : Bool} (h : RAt T w p r b) (b' : Bool) : RAt T (w.setCell ⟨p, 1, none⟩ (.bool b')) p r b' := by
  obtain ⟨hlt, hk⟩ := Array.getElem?_eq_some_iff.1 h
  show (w.heap.modify p _)[p]? = _
  rw [Array.getElem?_eq_getElem (by rw [Array.size_modify]; exact hlt), Array.getElem_modify_self, hk]
  rfl
theorem RAt.kept {T : TypeId} {w w' : World} {p : Nat} {r : ByteArray} {b : Bool} (h : RAt T w p r b) (hb : Kept w w') : RAt T w' p r b := (Below.block hb p h.lt).trans h
theorem RAt.drewN {T : TypeId} {w : World} {p : Nat} {r : ByteArray} {b : Bool} (h : RAt T w p r b) (n : Nat) : RAt T (w.drewN n) p r b := h

/-- Nothing turned but block p; memory was only made. -/
def Only (p : Nat) (w w' : World) : Prop := w.grownBy w' (some p)
theorem Only.refl (p : Nat) (w : World) : Only p w w := ⟨rfl, rfl, rfl, Nat.le_refl _, fun _ _ _ => rfl⟩
theorem Only.trans {p : Nat} {a b c : World} (h : Only p a b) (k : Only p b c) : Only p a c :=
  ⟨k.os.trans h.os, k.tape.trans h.tape, k.output.trans h.output, Nat.le_trans h.size k.size, fun j hj hn => (k.block j (Nat.lt_of_lt_of_le hj h.size) hn).trans (h.block j hj hn)⟩
theorem Only.set (p o : Nat) (w : World) (v : Value) : Only p w (w.setCell ⟨p, o, none⟩ v) :=
  ⟨rfl, rfl, rfl, by simp [World.setCell], fun k _ hk => Below.heap_setCell _ _ _ k (fun e => hk (by rw [e]))⟩
theorem Only.drewN (p : Nat) (w : World) (n : Nat) : Only p w (w.drewN n) := ⟨rfl, rfl, rfl, Nat.le_refl _, fun _ _ _ => rfl⟩
theorem Only.of_kept {p : Nat} {w w' : World} (h : Kept w w') : Only p w w' := ⟨h.os, h.tape, h.output, Below.size h, fun k hk _ => Below.block h k hk⟩
theorem Only.other {T : TypeId} {p q : Nat} {w w' : World} {r : ByteArray} {b : Bool} (h : Only p w w') (hr : RAt T w q r b) (hne : q ≠ p) : RAt T w' q r b :=
  (h.block q hr.lt (by simp [hne])).trans hr

theorem fail_any (w : World) (p : Nat) (r : ByteArray) (b : Bool) (h : RAt 53 w p r b) :
    Calls Tryd.prog 49 #[.pointer (some ⟨p, 0, none⟩)] w fun e w' => e = .returned (.tuple #[]) ∧ RAt 53 w' p ⟨#[]⟩ true ∧ Only p w w' := by
  have c0 := h.cell0
  have c1 := h.cell1
  have f0 := h.frozen0
  have f1 := h.frozen1
  go_enter Tryd.func49, Tryd.ntmps49
  go_wp2
  go_end0
  exact ⟨rfl, (h.set0 _).set1 _, (Only.set _ _ _ _).trans (Only.set _ _ _ _)⟩

theorem skip_yes (w : World) (p : Nat) (r : ByteArray) (b : Bool) (c : UInt8) (t : List UInt8) (h : RAt 53 w p r b) (hr : r.data.toList = c :: t) :
    Calls Tryd.prog 46 #[.pointer (some ⟨p, 0, none⟩), .int .u8 c.toNat] w fun e w' => e = .returned (.bool true) ∧ (∃ r', r'.data.toList = t ∧ RAt 53 w' p r' b) ∧ Only p w w' := by
  have c0 := h.cell0
  have c1 := h.cell1
  have f0 := h.frozen0
  have f1 := h.frozen1
  have he : r.toList.isEmpty = false := by rw [Lib.toList_data, hr]; rfl
  have hsz : r.size = t.length + 1 := by show r.data.toList.length = _; rw [hr]; rfl
  have h0 : 0 < r.size := by omega
  have h0i : (1 : Int) ≤ r.size := by omega
  have hc : r[0] = c := by
    have : r.data.toList[0]'(by rw [hr]; simp) = c := by simp only [hr]; rfl
    exact this
  have hq : ((r[0].toNat : Int) != (c.toNat : Int)) = false := by rw [hc]; simp
  have ht : (r.extract 1 r.size).data.toList = t := by
    rw [Lib.extract_data, hr]
    simp only [List.drop_succ_cons, List.drop_zero]
    exact List.take_of_length_le (by omega)
  have HT := Lib.hid ht
  clear ht hsz hr hc
  go_enter Tryd.func46, Tryd.ntmps46
  go_wp2
  go_ret
  exact ⟨rfl, ⟨_, HT.out, h.set0 _⟩, Only.set _ _ _ _⟩

theorem skip_no (w : World) (p : Nat) (r : ByteArray) (b : Bool) (c : UInt8) (h : RAt 53 w p r b) (hr : ∀ t, r.data.toList ≠ c :: t) :
    Calls Tryd.prog 46 #[.pointer (some ⟨p, 0, none⟩), .int .u8 c.toNat] w fun e w' => e = .returned (.bool false) ∧ RAt 53 w' p ⟨#[]⟩ true ∧ Only p w w' := by
  have c0 := h.cell0
  have c1 := h.cell1
  have HF := Lib.hid (fail_any w p r b h)
  cases hl : r.data.toList with
  | nil =>
    have he : r.toList.isEmpty = true := by rw [Lib.toList_data, hl]; rfl
    clear hl hr
    go_enter Tryd.func46, Tryd.ntmps46
    go_wp2_with (go_at_call 49; refine HF.out.mono ?_; rintro e w1 ⟨rfl, h1, o1⟩)
    go_ret
    exact ⟨rfl, h1, o1⟩
  | cons d t =>
    have he : r.toList.isEmpty = false := by rw [Lib.toList_data, hl]; rfl
    have hsz : r.size = t.length + 1 := by show r.data.toList.length = _; rw [hl]; rfl
    have h0 : 0 < r.size := by omega
    have hc : r[0] = d := by
      have : r.data.toList[0]'(by rw [hl]; simp) = d := by simp only [hl]; rfl
      exact this
    have hne : d ≠ c := fun e => hr t (by rw [hl, e])
    have hq : ((r[0].toNat : Int) != (c.toNat : Int)) = true := by
      rw [hc, bne_iff_ne]; intro e; exact hne (UInt8.toNat_inj.1 (by omega))
    clear hsz hl hr hc hne
    go_enter Tryd.func46, Tryd.ntmps46
    go_wp2_with (go_at_call 49; refine HF.out.mono ?_; rintro e w1 ⟨rfl, h1, o1⟩)
    go_ret
    exact ⟨rfl, h1, o1⟩

/-- What digits hands back. -/
def DigPost (w : World) (p : Nat) (b : Bool) (res : Option (Nat × List UInt8)) (e : Ending) (w' : World) : Prop :=
  Only p w w' ∧ match res with
  | some (v, rest) => e = .returned (.tuple #[.int .u64 v, .bool true]) ∧ ∃ r', r'.data.toList = rest ∧ RAt 53 w' p r' b
  | none => e = .returned (.tuple #[.int .u64 0, .bool false]) ∧ RAt 53 w' p ⟨#[]⟩ true

theorem u8_sub (c : UInt8) (h : 48 ≤ c.toNat) : IntKind.u8.wrap ((c.toNat : Int) - 48) = ((c.toNat - 48 : Nat) : Int) := by
  have := c.toNat_lt
  rw [Go.IntWalk.u8_in _ (by omega)]; omega

theorem digFail {w w' : World} {p : Nat} {b : Bool} {res : Option (Nat × List UInt8)} (hres : res = none) (ho : Only p w w') (hr : RAt 53 w' p ⟨#[]⟩ true) : DigPost w p b res (.returned (.tuple #[.int .u64 0, .bool false])) w' := by
  subst hres; exact ⟨ho, rfl, hr⟩

theorem digDone {w w' : World} {p : Nat} {b : Bool} {res : Option (Nat × List UInt8)} {v : Nat} {rest : List UInt8} {r' : ByteArray} (hres : res = some (v, rest)) (hr' : r'.data.toList = rest) (hr : RAt 53 w' p r' b) (ho : Only p w w') : DigPost w p b res (.returned (.tuple #[.int .u64 v, .bool true])) w' := by
  subst hres; exact ⟨ho, rfl, r', hr', hr⟩
theorem extract_rest (r : ByteArray) (k : Nat) : (r.extract k r.size).data.toList = r.data.toList.drop k := by
  rw [Lib.extract_data]
  apply List.take_of_length_le
  rw [List.length_drop]; exact Nat.le_refl _

set_option maxRecDepth 100000 in
set_option maxHeartbeats 2000000 in
theorem digits_any (w : World) (p : Nat) (r : ByteArray) (b : Bool) (limit : Nat) (h : RAt 53 w p r b) (hl : 9 ≤ limit) (hl2 : limit ≤ 9223372036854775808) (hrz : r.size ≤ 1000000000) :
    Calls Tryd.prog 45 #[.pointer (some ⟨p, 0, none⟩), .int .u64 limit] w (DigPost w p b (digP limit r.data.toList)) := by
  have c0 := h.cell0
  have c1 := h.cell1
  have f0 := h.frozen0
  have f1 := h.frozen1
  have HF := Lib.hid (fail_any w p r b h)
  have hlen : r.data.toList.length = r.size := rfl
  have HL := Lib.hid hlen
  clear hlen
  go_enter Tryd.func45, Tryd.ntmps45
  go_wp2
  go_loopw [6, 7] (fun nv iv wr => ∃ (k : Nat) (n : Nat), iv = .int .i64 k ∧ nv = .int .u64 n ∧ n ≤ limit ∧ Hid (n = val (r.data.toList.take k)) ∧ Hid (DInv limit r.data.toList k) ∧ k ≤ r.size ∧ wr = w) (fun _ iv _ => r.size - (intOf iv).toNat)
  case atStart => exact ⟨0, 0, rfl, rfl, Nat.zero_le _, rfl, DInv.start _ _, Nat.zero_le _, rfl⟩
  case round =>
    obtain ⟨k, n, rfl, rfl, hn, hv, hI, hk, hwr⟩ := hrel
    have hwr2 := hwr.symm
    subst hwr2
    by_cases hkl : k < r.size
    · have hgk : r.data.toList[k]'(by rw [HL.out]; exact hkl) = r[k] := rfl
      by_cases hd : dg r[k] = true
      · obtain ⟨d1, d2⟩ := (dg_iff _).1 hd
        have e1 : (48 : Int) ≤ r[k].toNat := by omega
        have e2 : (r[k].toNat : Int) ≤ 57 := by omega
        obtain ⟨d, hdd⟩ : ∃ d : Nat, r[k].toNat - 48 = d := ⟨_, rfl⟩
        have hsub : IntKind.u8.wrap ((r[k].toNat : Int) - 48) = (d : Int) := by rw [u8_sub _ d1, hdd]
        have hsub2 : (r[k].toNat : Int) - 48 = (d : Int) := by omega
        have hd9 : d ≤ 9 := by omega
        have hnext : val (r.data.toList.take (k + 1)) = 10 * n + d := by rw [hI.out.val_next (by rw [HL.out]; exact hkl), hgk, hdd, hv.out]
        have hkL : k < r.data.toList.length := by rw [HL.out]; exact hkl
        have hdk : dg (r.data.toList[k]) = true := hd
        have HNx := Lib.hid hnext
        have hcz : ¬ (k = 1 ∧ r.data.toList.head? = some 48) → 10 * n + d ≤ limit → Hid (DInv limit r.data.toList (k + 1)) := fun h1 h2 => hI.out.next hkL hdk (by rw [hnext]; exact h2) h1
        have hcb : limit < 10 * n + d → Hid (digP limit r.data.toList = none) := fun h2 => hI.out.fail_big hkL hdk (by rw [hnext]; exact h2)
        have h00 : 0 < r.size := by omega
        have hh0 : r.data.toList.head? = some r[0] := by
          rw [List.head?_eq_getElem?, List.getElem?_eq_getElem (by rw [HL.out]; exact h00)]; rfl
        clear hnext hdd d1 d2 hd hgk
        by_cases hk1 : k = 1
        · subst hk1
          by_cases hz : r[0] = 48
          · have hzq : ((r[0].toNat : Int) == 48) = true := by rw [hz]; rfl
            have hzi : (r[0].toNat : Int) = 48 := by rw [hz]; rfl
            have HNone : Hid (digP limit r.data.toList = none) := hI.out.fail_zero hkL hdk (by rw [hh0, hz])
            clear hcz hcb hh0 hz hdk
            go_wp2_with (go_at_call 49; refine HF.out.mono ?_; rintro e w1 ⟨rfl, g1, o1⟩)
            go_ret2
            exact digFail HNone.out o1 g1
          · have hzi : ¬ (r[0].toNat : Int) = 48 := fun e => hz (UInt8.toNat_inj.1 (by show r[0].toNat = 48; omega))
            have hzq : ((r[0].toNat : Int) == 48) = false := by rw [beq_eq_false_iff_ne]; exact hzi
            have hz2 : ¬ (1 = 1 ∧ r.data.toList.head? = some 48) := by rw [hh0]; rintro ⟨_, e⟩; exact hz (Option.some.inj e)
            by_cases hbig : limit < 10 * n + d
            · have hbi : ((limit : Int) - d) / 10 < n := by omega
              have HNone := hcb hbig
              clear hcz hcb hh0 hz hz2 hdk hbig
              go_wp2_with (go_at_call 49; refine HF.out.mono ?_; rintro e w1 ⟨rfl, g1, o1⟩)
              go_ret2
              exact digFail HNone.out o1 g1
            · have hbi : (n : Int) ≤ ((limit : Int) - d) / 10 := by omega
              have HNI := hcz hz2 (by omega)
              clear hcz hcb hh0 hz hz2 hdk
              go_wp2
              go_roundw
              case rel => exact ⟨1 + 1, 10 * n + d, by go_num, by go_num, by omega, HNx.out.symm, HNI.out, by omega, trivial⟩
              case measure => simp only [intOf]; omega
        · have hk1i : ¬ (k : Int) = 1 := by omega
          by_cases hbig : limit < 10 * n + d
          · have hbi : ((limit : Int) - d) / 10 < n := by omega
            have HNone := hcb hbig
            clear hcz hcb hh0 hdk hbig
            go_wp2_with (go_at_call 49; refine HF.out.mono ?_; rintro e w1 ⟨rfl, g1, o1⟩)
            go_ret2
            exact digFail HNone.out o1 g1
          · have hbi : (n : Int) ≤ ((limit : Int) - d) / 10 := by omega
            have HNI := hcz (fun h => hk1 h.1) (by omega)
            clear hcz hcb hh0 hdk
            go_wp2
            go_roundw
            case rel => exact ⟨k + 1, 10 * n + d, by go_num, by go_num, by omega, HNx.out.symm, HNI.out, by omega, trivial⟩
            case measure => simp only [intOf]; omega
      · have hd0 : dg r[k] = false := by rw [Bool.eq_false_iff]; exact hd
        have hres := hI.out.done (fun _ => hd0)
        have hnd : 48 ≤ r[k].toNat → ¬ r[k].toNat ≤ 57 := fun h1 h2 => hd ((dg_iff _).2 ⟨h1, h2⟩)
        clear hd hd0 hgk
        by_cases h48 : 48 ≤ r[k].toNat
        · have e1 : (48 : Int) ≤ r[k].toNat := by omega
          have e2 : (57 : Int) < r[k].toNat := by have := hnd h48; omega
          clear hnd
          by_cases hk0 : k = 0
          · subst hk0
            rw [if_pos rfl] at hres
            have HNone := Lib.hid hres
            clear hres
            go_wp2_with (go_at_call 49; refine HF.out.mono ?_; rintro e w1 ⟨rfl, g1, o1⟩)
            go_ret2
            exact digFail HNone.out o1 g1
          · rw [if_neg hk0, ← hv.out] at hres
            have HR := Lib.hid hres
            have HD := Lib.hid (extract_rest r k)
            have hk0i : ¬ (k : Int) = 0 := by omega
            clear hres
            go_wp2
            go_ret2
            exact digDone HR.out HD.out (h.set0 _) (Only.set _ _ _ _)
        · have e1 : (r[k].toNat : Int) < 48 := by omega
          clear hnd
          by_cases hk0 : k = 0
          · subst hk0
            rw [if_pos rfl] at hres
            have HNone := Lib.hid hres
            clear hres
            go_wp2_with (go_at_call 49; refine HF.out.mono ?_; rintro e w1 ⟨rfl, g1, o1⟩)
            go_ret2
            exact digFail HNone.out o1 g1
          · rw [if_neg hk0, ← hv.out] at hres
            have HR := Lib.hid hres
            have HD := Lib.hid (extract_rest r k)
            have hk0i : ¬ (k : Int) = 0 := by omega
            clear hres
            go_wp2
            go_ret2
            exact digDone HR.out HD.out (h.set0 _) (Only.set _ _ _ _)
    · have hres := hI.out.done (fun h => absurd h (by rw [HL.out]; omega))
      by_cases hk0 : k = 0
      · subst hk0
        rw [if_pos rfl] at hres
        have HNone := Lib.hid hres
        clear hres
        go_wp2_with (go_at_call 49; refine HF.out.mono ?_; rintro e w1 ⟨rfl, g1, o1⟩)
        go_ret2
        exact digFail HNone.out o1 g1
      · rw [if_neg hk0, ← hv.out] at hres
        have HR := Lib.hid hres
        have HD := Lib.hid (extract_rest r k)
        have hk0i : ¬ (k : Int) = 0 := by omega
        clear hres
        go_wp2
        go_ret2
        exact digDone HR.out HD.out (h.set0 _) (Only.set _ _ _ _)
end Go.Proofs.YtonfkmoocgpleaaDoor
