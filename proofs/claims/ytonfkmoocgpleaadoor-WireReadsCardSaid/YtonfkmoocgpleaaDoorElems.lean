/- The reader's lists. -/
import Derived.Test.YtonfkmoocgpleaaDoorReads2
import Derived.Maps.AppendAt
namespace Go.Proofs.YtonfkmoocgpleaaDoor
open Go.RowKit

theorem rLeft_any (w : World) (p : Nat) (r : ByteArray) (b : Bool) (h : RAt 53 w p r b) :
    Calls Tryd.prog 35 #[.pointer (some ⟨p, 0, none⟩)] w fun e w' => e = .returned (.int .i64 r.size) ∧ w = w' := by
  have c0 := h.cell0
  go_enter Tryd.func35, Tryd.ntmps35
  go_wp2
  go_ret
  exact ⟨rfl, rfl⟩
theorem rDone_any (w : World) (p : Nat) (r : ByteArray) (b : Bool) (h : RAt 53 w p r b) :
    Calls Tryd.prog 37 #[.pointer (some ⟨p, 0, none⟩)] w fun e w' => e = .returned (.bool (!b && r.data.toList.isEmpty)) ∧ w = w' := by
  have c0 := h.cell0
  have c1 := h.cell1
  rw [← Lib.toList_data]
  cases b
  · go_enter Tryd.func37, Tryd.ntmps37
    go_wp2
    go_ret
    exact ⟨ret_bool (by simp), rfl⟩
  · go_enter Tryd.func37, Tryd.ntmps37
    go_wp2
    go_ret
    exact ⟨ret_bool (by simp), rfl⟩
theorem rOpen_any (w : World) (r : ByteArray) :
    Calls Tryd.prog 20 #[.string r] w fun e w' => e = .returned (.pointer (some ⟨w.heap.size, 0, none⟩)) ∧ RAt 53 w' w.heap.size r false ∧ Kept w w' := by
  go_enter Tryd.func20, Tryd.ntmps20
  go_wp2
  go_ret
  exact ⟨rfl, World.alloc_heap_new w _, (Below.refl _ w).alloc (Nat.le_refl _) _⟩

/-- n values one behind the other. -/
def elemsP {α : Type} (one : List UInt8 → Option (α × List UInt8)) : Nat → List UInt8 → Option (List α × List UInt8)
  | 0, l => some ([], l)
  | n + 1, l => match one l with
    | some (v, rest) => (elemsP one n rest).map fun x => (v :: x.1, x.2)
    | none => none
/-- The bracket behind the elements. -/
def closeP {α : Type} (x : Option (List α × List UInt8)) : Option (List α × List UInt8) :=
  match x with
  | some (vs, d :: t) => if d = 93 then some (vs, t) else none
  | _ => none
theorem close_yes {α : Type} (vs : List α) (t : List UInt8) : closeP (some (vs, 93 :: t)) = some (vs, t) := by simp [closeP]
theorem close_no {α : Type} (vs : List α) (l : List UInt8) (h : ∀ t, l ≠ 93 :: t) : closeP (some (vs, l)) = none := by
  cases l with
  | nil => rfl
  | cons d t =>
    have hd : d ≠ 93 := fun e => h t (by rw [e])
    show (if d = 93 then some (vs, t) else none) = none
    rw [if_neg hd]

/-- A list: its length, a bracket, its elements, a bracket. -/
def listP {α : Type} (one : List UInt8 → Option (α × List UInt8)) (l : List UInt8) : Option (List α × List UInt8) :=
  match numP 9223372036854775807 91 l with
  | some (n, rest) => closeP (elemsP one n rest)
  | none => none

theorem digP_less {limit : Nat} {l rest : List UInt8} {v : Nat} (h : digP limit l = some (v, rest)) : rest.length < l.length := by
  have e := digP_rest h
  subst e
  have hne : l.takeWhile dg ≠ [] := by
    intro h0
    unfold digP at h
    rw [if_pos (.inl h0)] at h; cases h
  have h1 := congrArg List.length (List.takeWhile_append_dropWhile (p := dg) (l := l))
  rw [List.length_append] at h1
  have := List.length_pos_iff.2 hne
  omega
theorem numP_less {limit : Nat} {c : UInt8} {l rest : List UInt8} {v : Nat} (h : numP limit c l = some (v, rest)) : rest.length < l.length := by
  unfold numP at h
  split at h
  · rename_i v' d t hd
    split at h
    · have := digP_less hd
      cases h
      simp only [List.length_cons] at this; omega
    · cases h
  · cases h
theorem intP_less {l rest : List UInt8} {v : Int} (h : intP l = some (v, rest)) : rest.length < l.length := by
  unfold intP at h
  split at h
  · rename_i t
    split at h
    · rename_i v' rest' hn
      split at h
      · cases h
      · have := numP_less hn
        cases h
        simp only [List.length_cons]; omega
    · cases h
  · cases hn : numP 9223372036854775807 59 l with
    | none => rw [hn] at h; cases h
    | some vr =>
      rw [hn] at h
      obtain ⟨v', rest'⟩ := vr
      have := numP_less hn
      cases h; exact this
theorem textP_less {l rest : List UInt8} {v : ByteArray} (h : textP l = some (v, rest)) : rest.length < l.length := by
  unfold textP at h
  split at h
  · rename_i n rest' hn
    have h1 := numP_less hn
    split at h
    · cases h
    · split at h
      · rename_i d t hd
        split at h
        · cases h
          have := congrArg List.length hd
          rw [List.length_drop, List.length_cons] at this
          omega
        · cases h
      · cases h
  · cases h

theorem elems_more {α : Type} {one : List UInt8 → Option (α × List UInt8)} {v m : Nat} {t l rest : List UInt8} {pre : List α} {x : α} (h : elemsP one v t = (elemsP one (m + 1) l).map fun y => (pre ++ y.1, y.2)) (h1 : one l = some (x, rest)) :
    elemsP one v t = (elemsP one m rest).map fun y => ((pre ++ [x]) ++ y.1, y.2) := by
  rw [h, elemsP, h1]
  simp only [Option.map_map]
  cases elemsP one m rest with
  | none => rfl
  | some y => simp
theorem elems_fail {α : Type} {one : List UInt8 → Option (α × List UInt8)} {v m : Nat} {t l : List UInt8} {pre : List α} (h : elemsP one v t = (elemsP one (m + 1) l).map fun y => (pre ++ y.1, y.2)) (h1 : one l = none) : elemsP one v t = none := by
  rw [h, elemsP, h1]; rfl
theorem elems_end {α : Type} {one : List UInt8 → Option (α × List UInt8)} {v : Nat} {t l : List UInt8} {pre : List α} (h : elemsP one v t = (elemsP one 0 l).map fun y => (pre ++ y.1, y.2)) : elemsP one v t = some (pre, l) := by
  rw [h, elemsP]; simp

/-- What a method for lists leaves. -/
def ListPost {α : Type} (enc : α → Value) (T : TypeId) (w : World) (p : Nat) (b : Bool) (res : Option (List α × List UInt8)) (e : Ending) (w' : World) : Prop :=
  Only p w w' ∧ match res with
  | some (vs, rest) => (∃ v, e = .returned v ∧ w'.ownsRow w.heap.size T 1 v vs.length (vs.map enc)) ∧ ∃ r', r'.data.toList = rest ∧ RAt 53 w' p r' b
  | none => e = .returned (.slice none 0 0) ∧ RAt 53 w' p ⟨#[]⟩ true

theorem listNone {α : Type} {enc : α → Value} {T : TypeId} {w w' : World} {p : Nat} {b : Bool} {res : Option (List α × List UInt8)} (hres : res = none) (ho : Only p w w') (hr : RAt 53 w' p ⟨#[]⟩ true) : ListPost enc T w p b res (.returned (.slice none 0 0)) w' := by
  subst hres; exact ⟨ho, rfl, hr⟩
theorem listSome {α : Type} {enc : α → Value} {T : TypeId} {w w' : World} {p : Nat} {b : Bool} {res : Option (List α × List UInt8)} {vs : List α} {rest : List UInt8} {v : Value} {r' : ByteArray} (hres : res = some (vs, rest)) (ho : Only p w w') (hown : w'.ownsRow w.heap.size T 1 v vs.length (vs.map enc)) (hr' : r'.data.toList = rest) (hr : RAt 53 w' p r' b) : ListPost enc T w p b res (.returned v) w' := by
  subst hres; exact ⟨ho, ⟨v, rfl, hown⟩, r', hr', hr⟩
theorem Only.grown {p : Nat} {w wr w1 : World} {row : Option Nat} (h : Only p w wr) (hg : wr.grownBy w1 row) (hrow : ∀ k, row = some k → w.heap.size ≤ k) : Only p w w1 :=
  ⟨hg.os.trans h.os, hg.tape.trans h.tape, hg.output.trans h.output, Nat.le_trans h.size hg.size, fun j hj hn => (hg.block j (Nat.lt_of_lt_of_le hj h.size) (fun e => by have := hrow j e.symm; omega)).trans (h.block j hj hn)⟩
theorem Only.alloc {p : Nat} {w wr : World} (h : Only p w wr) (o : Obj) : Only p w (wr.alloc o) := h.grown (World.grownBy_alloc wr o none) (fun _ e => by cases e)
theorem own_only {p B : Nat} {w w' : World} {T n : Nat} {v : Value} {xs : List Value} (h : w.ownsRow B T 1 v n xs) (ho : Only p w w') (hp : p < B) : w'.ownsRow B T 1 v n xs :=
  World.ownsRow.kept h ho (by
    cases hv : v.ownBlock with
    | none => exact .inl rfl
    | some g => exact .inr (fun e => by have := (World.ownsRow.lt h g hv).1; cases e; omega))

theorem infoInt : (Tryd.prog.info? 3).map (fun i => (i.zero, i.size, i.bytes)) = some (some (.int .i64 0), 1, 8) := by kernel_rfl

set_option maxRecDepth 100000 in
set_option maxHeartbeats 1000000 in
theorem elems1_any (w : World) (p : Nat) (r : ByteArray) (b : Bool) (h : RAt 53 w p r b) (hb : b = true → r.data.toList = []) (hrz : r.size ≤ 1000000000) :
    Calls Tryd.prog 53 #[.pointer (some ⟨p, 0, none⟩), .func (.func 25) #[.pointer (some ⟨p, 0, none⟩)] #[]] w (ListPost (Value.int .i64) 3 w p b (listP intP r.data.toList)) := by
  obtain ⟨i0, hi, hz0, hz1, hz2⟩ := info_parts infoInt
  obtain ⟨res, hres0⟩ : ∃ res, res = listP intP r.data.toList := ⟨_, rfl⟩
  rw [← hres0]
  have HD := Lib.hid (digits_any w p r b 9223372036854775807 h (by omega) (by omega) hrz)
  cases hdp : digP 9223372036854775807 r.data.toList with
  | none =>
    have hres : res = none := by rw [hres0]; unfold listP numP; rw [hdp]
    rw [hdp] at HD
    have HR := Lib.hid hres
    clear hres hres0 hdp hb
    go_enter Tryd.func53, Tryd.ntmps53
    go_wp2_with (go_at_call 45; refine HD.out.mono ?_; rintro e w1 ⟨o1, rfl, g1⟩)
    go_ret
    exact listNone HR.out o1 g1
  | some vr =>
    obtain ⟨v, rest⟩ := vr
    have hvl : v ≤ 9223372036854775807 := digP_le hdp
    have hls := digP_less hdp
    have hbf : b = false := by
      cases b
      · rfl
      · have := hb rfl; rw [this] at hls; simp at hls
    subst hbf
    rw [hdp] at HD
    by_cases hc : ∃ t, rest = 91 :: t
    · obtain ⟨t, rfl⟩ := hc
      have hlst : res = closeP (elemsP intP v t) := by
        have hn : numP 9223372036854775807 91 r.data.toList = some (v, t) := by unfold numP; rw [hdp]; simp
        rw [hres0]; unfold listP; rw [hn]
      have htl : t.length ≤ 1000000000 := by
        have : r.data.toList.length = r.size := rfl
        simp only [List.length_cons] at hls; omega
      have HLS := Lib.hid hlst
      clear hres0 hdp hb hlst hls
      go_enter Tryd.func53, Tryd.ntmps53
      go_wp2_with (go_at_call 45; refine HD.out.mono ?_)
      rintro e w1 ⟨o1, rfl, r1, hr1, g1⟩
      have HS := Lib.hid (skip_yes w1 p r1 false 91 t g1 hr1)
      clear hr1
      go_wp2_with (go_at_call 46; refine HS.out.mono ?_)
      rintro e w2 ⟨rfl, ⟨r2, hr2, g2⟩, o2⟩
      have hzr2 : r2.size = t.length := by show r2.data.toList.length = _; rw [hr2]
      have hp := h.lt
      have hstart : Hid (elemsP intP v t = (elemsP intP v r2.data.toList).map fun y => (([] : List Int) ++ y.1, y.2)) := by
        show _ = _
        rw [hr2]
        cases elemsP intP v t <;> simp
      clear hr2
      go_wp2
      go_loopw [5, 7] (fun nv lv wr => ∃ (m : Nat) (pre : List Int) (cur : ByteArray), nv = .int .u64 m ∧ m ≤ 9223372036854775807 ∧ Hid (elemsP intP v t = (elemsP intP m cur.data.toList).map fun y => (pre ++ y.1, y.2)) ∧ cur.size + pre.length ≤ 1000000000 ∧ wr.ownsRow w.heap.size 3 1 lv pre.length (pre.map (Value.int .i64)) ∧ RAt 53 wr p cur false ∧ Only p w wr) (fun nv _ _ => match nv with | .int _ n => n.toNat | _ => 0)
      case atStart => exact ⟨v, [], r2, rfl, hvl, hstart, by simp; omega, World.ownsRow_nil _ _ _ _, g2, o1.trans o2⟩
      case round =>
        clear hstart hzr2
        obtain ⟨m, pre, cur, rfl, hm, hel, hcz, hown, g, o⟩ := hrel
        cases m with
        | zero =>
          have hend := elems_end hel.out
          by_cases hcl : ∃ t', cur.data.toList = 93 :: t'
          · obtain ⟨t', ht'⟩ := hcl
            have hres : res = some (pre, t') := by
              rw [HLS.out, hend, ht', close_yes]
            have HR := Lib.hid hres
            have HS2 := Lib.hid (skip_yes wr p cur false 93 t' g ht')
            clear hres hend ht' hel
            go_wp2_with (go_at_call 46; refine HS2.out.mono ?_)
            rintro e w4 ⟨rfl, ⟨r4, hr4, g4⟩, o4⟩
            have HR4 := Lib.hid hr4
            clear hr4
            go_wp2
            go_ret
            exact listSome HR.out (o.trans o4) (own_only hown o4 hp) HR4.out g4
          · have hres : res = none := by
              rw [HLS.out, hend, close_no _ _ (fun t' e => hcl ⟨t', e⟩)]
            have HR := Lib.hid hres
            have HS2 := Lib.hid (skip_no wr p cur false 93 g (fun t' e => hcl ⟨t', e⟩))
            clear hres hend hel hcl
            go_wp2_with (go_at_call 46; refine HS2.out.mono ?_)
            rintro e w4 ⟨rfl, g4, o4⟩
            go_wp2
            go_ret
            exact listNone HR.out (o.trans o4) g4
        | succ m =>
          have hone := rInt_any wr p cur false g (by omega)
          have hmi : (0 : Int) < (m : Int) + 1 := by omega
          cases hop : intP cur.data.toList with
          | none =>
            have hres : res = none := by rw [HLS.out, elems_fail hel.out hop]; rfl
            have HR := Lib.hid hres
            rw [hop] at hone
            have HO := Lib.hid hone
            clear hres hone hop hel
            go_wp2_with (go_at_call 25; refine HO.out.mono ?_)
            rintro e w4 ⟨o4, rfl, g4⟩
            have c1 := g4.cell1
            go_wp2
            go_ret
            exact listNone HR.out (o.trans o4) g4
          | some xr =>
            obtain ⟨x, rest⟩ := xr
            have hnx := elems_more hel.out hop
            have hless := intP_less hop
            rw [hop] at hone
            have HO := Lib.hid hone
            have HNX := Lib.hid hnx
            have hcl2 : cur.data.toList.length = cur.size := rfl
            have hrl : rest.length + 1 + pre.length ≤ 1000000000 := by omega
            clear hone hop hel hnx hless hcl2
            go_wp2_with (go_at_call 25; refine HO.out.mono ?_)
            rintro e w4 ⟨o4, rfl, r4, hr4, g4⟩
            have c1 := g4.cell1
            have hz4 : r4.size = rest.length := by show r4.data.toList.length = _; rw [hr4]
            have hown4 := own_only hown o4 hp
            have hs4 : w.heap.size ≤ w4.heap.size := Nat.le_trans o.size o4.size
            have HR4 := Lib.hid hr4
            clear hr4
            go_wp2_with (at_builtin; refine wpList_append_own _ rfl _ _ 22 rfl w.heap.size 3 i0 (.int .i64 0) 1 8 Tryd.underlying22 hi hz0 hz1 hz2 rfl (by decide) _ _ _ rfl (hown4.alloc _) ⟨w4.heap.size, 0, none⟩ 1 1 [.int .i64 x] rfl rfl (cell_one_new _ _ _) (by simp [Value.oneCell']) (by unfold maxLen; omega) (by omega) (by simp; omega) ?_; intro v' w5 hown' hgrow _)
            have hpk : ∀ k, u7.ownBlock = some k → w.heap.size ≤ k := fun k hk => (hown4.lt k hk).1
            have g5 : RAt 53 w5 p r4 false := (hgrow.block p (by have := g4.lt; simp; omega) (fun e => by have := hpk p e.symm; omega)).trans (g4.kept ((Below.refl _ w4).alloc (Nat.le_refl _) _))
            refine ⟨⟨m, pre ++ [x], r4, rfl, by omega, ?_, by simp; omega, by simpa using hown', g5, ((o.trans o4).alloc _).grown hgrow hpk⟩, ?_⟩
            · show _ = _
              rw [HR4.out]; exact HNX.out
            · show (m : Int).toNat < ((m + 1 : Nat) : Int).toNat
              omega
    · have hres : res = none := by
        have : numP 9223372036854775807 91 r.data.toList = none := by
          unfold numP; rw [hdp]
          cases rest with
          | nil => rfl
          | cons d t => simp only; rw [if_neg (fun e => hc ⟨t, by rw [e]⟩)]
        rw [hres0]; unfold listP; rw [this]
      have HR := Lib.hid hres
      clear hres hres0 hdp hb hls
      go_enter Tryd.func53, Tryd.ntmps53
      go_wp2_with (go_at_call 45; refine HD.out.mono ?_)
      rintro e w1 ⟨o1, rfl, r1, hr1, g1⟩
      have HS := Lib.hid (skip_no w1 p r1 false 91 g1 (fun t e => hc ⟨t, by rw [← hr1, e]⟩))
      clear hr1 hc
      go_wp2_with (go_at_call 46; refine HS.out.mono ?_)
      rintro e w2 ⟨rfl, g2, o2⟩
      go_wp2
      go_ret
      exact listNone HR.out (o1.trans o2) g2
end Go.Proofs.YtonfkmoocgpleaaDoor
