/- 'equal' at a reader whose rest begins with the value's encoding: true, and the encoding is read. -/
import Derived.Test.YtonfkmoocgpleaaDoorSames
import Derived.Deep.RegionHeld3
namespace Go.Proofs.YtonfkmoocgpleaaDoor
open Go.RowKit

/-- A reader that has not failed, at this rest. -/
def AtRest (w : World) (p : Nat) (rest : List UInt8) : Prop := ∃ r : ByteArray, r.data.toList = rest ∧ RAt 53 w p r false
theorem AtRest.lt {w : World} {p : Nat} {rest : List UInt8} (h : AtRest w p rest) : p < w.heap.size := by obtain ⟨_, _, h⟩ := h; exact h.lt
theorem AtRest.kept {w w' : World} {p : Nat} {rest : List UInt8} (h : AtRest w p rest) (hb : Kept w w') : AtRest w' p rest := by obtain ⟨r, h1, h2⟩ := h; exact ⟨r, h1, h2.kept hb⟩
theorem AtRest.drewN {w : World} {p : Nat} {rest : List UInt8} (h : AtRest w p rest) (n : Nat) : AtRest (w.drewN n) p rest := h
theorem AtRest.other {w w' : World} {p q : Nat} {rest : List UInt8} (h : AtRest w p rest) (ho : Only q w w') (hne : p ≠ q) : AtRest w' p rest := by obtain ⟨r, h1, h2⟩ := h; exact ⟨r, h1, ho.other h2 hne⟩

theorem only_cell {p B i : Nat} {w w' : World} {v : Value} (h : Only p w w') (hne : B ≠ p) (hc : w.cell? ⟨B, i, none⟩ = some v) : w'.cell? ⟨B, i, none⟩ = some v := by
  have hlt := World.block_lt_of_cell? w _ hc
  rw [← hc]
  have hb : w'.heap[B]? = w.heap[B]? := h.block B hlt (by simp [hne])
  simp only [World.cell?, hb]
theorem Row.only {α : Type} {enc : α → Value} {p : Nat} {w w' : World} {n₀ : Nat} {v : Value} {xs : List α} (h : Row enc w n₀ v xs) (ho : Only p w w') (hp : n₀ ≤ p) : Row enc w' n₀ v xs := by
  obtain ⟨x, cap, rfl, hc⟩ := h
  refine ⟨x, cap, rfl, fun j hj => ?_⟩
  obtain ⟨b, off, hlt, e, hcj⟩ := hc j hj
  exact ⟨b, off, hlt, e, only_cell ho (by omega) hcj⟩
theorem Row.grow {α : Type} {enc : α → Value} {w : World} {n₀ : Nat} {v : Value} {xs : List α} (h : Row enc w n₀ v xs) (hp : n₀ ≤ w.heap.size) : Row enc w w.heap.size v xs := h.mono hp

theorem Only.undrew {p : Nat} {w w' : World} (h : Only p w.drew w') : Only p w w' := ⟨h.os, h.tape, h.output, h.size, h.block⟩

def YesPost (v : Value) (p : Nat) (rest : List UInt8) (w : World) (e : Ending) (w' : World) : Prop := e = .returned v ∧ AtRest w' p rest ∧ Only p w w'

theorem read_yes {α : Type} {enc : α → Value} {zero : Value} {w w' : World} {p : Nat} {res : Option (α × List UInt8)} {e : Ending} {v : α} {rest : List UInt8} (hr : res = some (v, rest)) (h : ReadPost enc zero w p false res e w') : YesPost (enc v) p rest w e w' := by
  subst hr
  obtain ⟨ho, he, r', h1, h2⟩ := h
  exact ⟨he, ⟨r', h1, h2⟩, ho⟩
theorem num_yes (w : World) (p n : Nat) (l rest : List UInt8) (h : AtRest w p l) (hz : l.length ≤ 1000000000) (hr : numP 9223372036854775807 59 l = some (n, rest)) :
    Calls Tryd.prog 23 #[.pointer (some ⟨p, 0, none⟩)] w (YesPost (.int .i64 n) p rest w) := by
  obtain ⟨r, rfl, h⟩ := h
  exact (rNum_any w p r false h hz).mono fun _ _ hh => read_yes (enc := fun n : Nat => Value.int .i64 n) hr hh
theorem int_yes (w : World) (p : Nat) (n : Int) (l rest : List UInt8) (h : AtRest w p l) (hz : l.length ≤ 1000000000) (hr : intP l = some (n, rest)) :
    Calls Tryd.prog 25 #[.pointer (some ⟨p, 0, none⟩)] w (YesPost (.int .i64 n) p rest w) := by
  obtain ⟨r, rfl, h⟩ := h
  exact (rInt_any w p r false h hz).mono fun _ _ hh => read_yes hr hh
theorem text_yes (w : World) (p : Nat) (s : ByteArray) (l rest : List UInt8) (h : AtRest w p l) (hz : l.length ≤ 1000000000) (hr : textP l = some (s, rest)) :
    Calls Tryd.prog 27 #[.pointer (some ⟨p, 0, none⟩)] w (YesPost (.string s) p rest w) := by
  obtain ⟨r, rfl, h⟩ := h
  exact (rText_any w p r false h hz).mono fun _ _ hh => read_yes hr hh

def ListYes {α : Type} (enc : α → Value) (xs : List α) (p : Nat) (rest : List UInt8) (w : World) (e : Ending) (w' : World) : Prop :=
  (∃ x cap, e = .returned (.slice x xs.length cap) ∧ Row enc w' w'.heap.size (.slice x xs.length cap) xs) ∧ AtRest w' p rest ∧ Only p w w'
theorem list_yes {α : Type} {enc : α → Value} {T : TypeId} {w w' : World} {p : Nat} {res : Option (List α × List UInt8)} {e : Ending} {xs : List α} {rest : List UInt8} (hr : res = some (xs, rest)) (h : ListPost enc T w p false res e w') : ListYes enc xs p rest w e w' := by
  subst hr
  obtain ⟨ho, ⟨v, he, hown⟩, r', h1, h2⟩ := h
  have hrow := Row.of_own hown
  obtain ⟨x, cap, rfl, hc⟩ := hrow
  exact ⟨⟨x, cap, he, x, cap, rfl, hc⟩, ⟨r', h1, h2⟩, ho⟩
theorem nums_yes (w : World) (p : Nat) (xs : List Int) (l rest : List UInt8) (h : AtRest w p l) (hz : l.length ≤ 1000000000) (hr : listP intP l = some (xs, rest)) :
    Calls Tryd.prog 30 #[.pointer (some ⟨p, 0, none⟩)] w (ListYes (Value.int .i64) xs p rest w) := by
  obtain ⟨r, rfl, h⟩ := h
  exact (rNums_any w p r false h (by simp) hz).mono fun _ _ hh => list_yes hr hh
theorem texts_yes (w : World) (p : Nat) (xs : List ByteArray) (l rest : List UInt8) (h : AtRest w p l) (hz : l.length ≤ 1000000000) (hr : listP textP l = some (xs, rest)) :
    Calls Tryd.prog 33 #[.pointer (some ⟨p, 0, none⟩)] w (ListYes Value.string xs p rest w) := by
  obtain ⟨r, rfl, h⟩ := h
  exact (rTexts_any w p r false h (by simp) hz).mono fun _ _ hh => list_yes hr hh

theorem enc0 {v : V} (h : v.wf) (rest : List UInt8) : numP 9223372036854775807 59 (v.encK 0 ++ rest) = some (numOf v.n, rest) := pos_back _ rest (numOf_le _ h.2.1.1 h.2.1.2)
theorem enc1 {v : V} (h : v.wf) (rest : List UInt8) : intP (v.encK 1 ++ rest) = some (v.n, rest) := int_back _ rest h.2.1.1 h.2.1.2
theorem enc2 {v : V} (h : v.wf) (rest : List UInt8) : textP (v.encK 2 ++ rest) = some (v.s, rest) := text_back _ rest h.2.2.2.2.2.1
theorem enc3 {v : V} (h : v.wf) (rest : List UInt8) : listP intP (v.encK 3 ++ rest) = some (v.l, rest) := ints_back _ rest h.2.2.1 h.2.2.2.1
theorem enc4 {v : V} (h : v.wf) (rest : List UInt8) : listP textP (v.encK 4 ++ rest) = some (v.t, rest) := texts_back _ rest h.2.2.2.2.2.2 h.2.2.2.2.1

set_option maxRecDepth 100000 in
set_option maxHeartbeats 1000000 in
theorem equal_yes (v : V) (lv tv : Value) (w : World) (p : Nat) (rest : List UInt8) (hv : VAt w p lv tv v) (hp : AtRest w p (v.enc ++ rest)) (hz : (v.enc ++ rest).length ≤ 1000000000) :
    Calls Tryd.prog 40 #[.pointer (some ⟨p, 0, none⟩), .agg #[.int .i64 v.kind, .int .i64 v.n, .string v.s, lv, tv]] w (YesPost (.bool true) p rest w) := by
  have hk0 : Kept w (w.alloc (.cells #[.int .i64 v.kind, .int .i64 v.n, .string v.s, lv, tv] 25)) := (Below.refl _ w).alloc (Nat.le_refl _) _
  have hn := fun i => Lib.cell_of_heap (World.alloc_heap_new w (.cells #[.int .i64 v.kind, .int .i64 v.n, .string v.s, lv, tv] 25)) i
  obtain ⟨w0, hw0⟩ : ∃ w0, w0 = w.alloc (.cells #[.int .i64 v.kind, .int .i64 v.n, .string v.s, lv, tv] 25) := ⟨_, rfl⟩
  have hwf := hv.2.2
  obtain ⟨hn0, hn1⟩ := hwf.2.1
  have HK := Lib.hid (kind_any v.kind (.int .i64 v.n) (.string v.s) lv tv (w.alloc (.cells #[.int .i64 v.kind, .int .i64 v.n, .string v.s, lv, tv] 25)))
  have hlt : w.heap.size < w0.heap.size := by rw [hw0]; simp
  obtain ⟨k, hk⟩ : ∃ k, k = kindOf v.kind := ⟨_, rfl⟩
  have hk5 : k < 5 := by rw [hk]; exact kind_lt _
  have hE : v.enc = v.encK k := by rw [hk]; rfl
  rw [hE] at hp hz
  rw [← hk] at HK
  clear hE hk
  have hpw := hp.lt
  go_enter Tryd.func40, Tryd.ntmps40
  go_wp2_with (go_at_call 22; refine HK.out.mono ?_)
  rintro e w1 ⟨rfl, b1⟩
  rw [← hw0] at hk0 hn b1
  have k1 := hk0.trans b1
  have g1 := hp.kept k1
  have o1 : Only p w w1 := Only.of_kept k1
  obtain ⟨B, hB⟩ : ∃ B, B = w.heap.size := ⟨_, rfl⟩
  have hBp : B ≠ p := by omega
  have hq : ∀ i, w1.cell? ⟨B, i, none⟩ = #[.int .i64 v.kind, .int .i64 v.n, .string v.s, lv, tv][i]? := fun i => by
    rw [hB]; exact (Below.cell (p := ⟨w.heap.size, i, none⟩) b1 hlt).trans (hn i)
  rw [← hB]
  have q1 := hq 1
  have q2 := hq 2
  have q3 := hq 3
  have q4 := hq 4
  simp only [List.getElem?_toArray, List.getElem?_cons_zero, List.getElem?_cons_succ] at q1 q2 q3 q4
  have hli := hv.1
  have hti := hv.2.1
  have C6 := Lib.hid (fun W : World => number_any v.n W hn0 hn1)
  have HWf := Lib.hid hwf
  clear hq hn hB hw0 HK hlt b1 hk0 hv hp k1 hwf
  have hks : k = 0 ∨ k = 1 ∨ k = 2 ∨ k = 3 ∨ k = 4 := by omega
  clear hk5
  rcases hks with rfl | rfl | rfl | rfl | rfl
  · have HE := Lib.hid (fun (W : World) (g : AtRest W p (v.encK 0 ++ rest)) => num_yes W p _ _ _ g hz (enc0 HWf.out rest))
    clear q2 q3 q4 hz hli hti
    go_wp2
    go_region_held3 (fun w' => w'.cell? ⟨B, 1, none⟩ = some (.int .i64 v.n)) (first | assumption | go_keep) (first | (go_at_call 23; refine (HE.out _ (by exact g1)).mono ?_; rintro e w' ⟨rfl, hA, hO⟩; have hc' := only_cell hO hBp (by assumption)) | (go_at_call 55; refine (C6.out _).mono ?_; rintro e w' ⟨rfl, rfl⟩))
    go_wp2
    go_ret
    exact ⟨rfl, hA, o1.trans hO.undrew⟩
  · have HE := Lib.hid (fun (W : World) (g : AtRest W p (v.encK 1 ++ rest)) => int_yes W p _ _ _ g hz (enc1 HWf.out rest))
    clear q2 q3 q4 hz hli hti
    go_wp2
    go_region_held3 (fun w' => w'.cell? ⟨B, 1, none⟩ = some (.int .i64 v.n)) (first | assumption | go_keep) (first | (go_at_call 25; refine (HE.out _ (by exact g1)).mono ?_; rintro e w' ⟨rfl, hA, hO⟩; have hc' := only_cell hO hBp (by assumption)))
    go_wp2
    go_ret
    exact ⟨rfl, hA, o1.trans hO.undrew⟩
  · have HE := Lib.hid (fun (W : World) (g : AtRest W p (v.encK 2 ++ rest)) => text_yes W p _ _ _ g hz (enc2 HWf.out rest))
    clear q1 q3 q4 hz hli hti
    go_wp2
    go_region_held3 (fun w' => w'.cell? ⟨B, 2, none⟩ = some (.string v.s)) (first | assumption | go_keep) (first | (go_at_call 27; refine (HE.out _ (by exact g1)).mono ?_; rintro e w' ⟨rfl, hA, hO⟩; have hc' := only_cell hO hBp (by assumption)))
    go_wp2
    go_ret
    exact ⟨rfl, hA, o1.trans hO.undrew⟩
  · have HE := Lib.hid (fun (W : World) (g : AtRest W p (v.encK 3 ++ rest)) => nums_yes W p _ _ _ g hz (enc3 HWf.out rest))
    have HR := Lib.hid (fun (W : World) (ho : Only p w1 W) => ((hli.only (o1.trans ho) (Nat.le_refl _)).grow (Nat.le_trans (Nat.le_of_lt hpw) (o1.trans ho).size) : Row (Value.int .i64) W W.heap.size lv v.l))
    clear q1 q2 q4 hz hli hti
    go_wp2
    go_region_held3 (fun w' => w'.cell? ⟨B, 3, none⟩ = some lv) (first | assumption | go_keep) (first | (go_at_call 30; refine (HE.out _ (by exact g1)).mono ?_; rintro e w' ⟨⟨x, cap, rfl, hR⟩, hA, hO⟩; have hc' := only_cell hO hBp (by assumption)) | (go_at_call 29; refine (SameNums_any _ _ v.l _ HWf.out.2.2.2.1 hR (HR.out _ hO.undrew)).mono ?_; rintro e w'' ⟨rfl, m2, rfl⟩))
    go_wp2
    go_ret
    exact ⟨rfl, hA, (o1.trans hO.undrew).trans (Only.drewN _ _ _)⟩
  · have HE := Lib.hid (fun (W : World) (g : AtRest W p (v.encK 4 ++ rest)) => texts_yes W p _ _ _ g hz (enc4 HWf.out rest))
    have HR := Lib.hid (fun (W : World) (ho : Only p w1 W) => ((hti.only (o1.trans ho) (Nat.le_refl _)).grow (Nat.le_trans (Nat.le_of_lt hpw) (o1.trans ho).size) : Row Value.string W W.heap.size tv v.t))
    clear q1 q2 q3 hz hli hti
    go_wp2
    go_region_held3 (fun w' => w'.cell? ⟨B, 4, none⟩ = some tv) (first | assumption | go_keep) (first | (go_at_call 33; refine (HE.out _ (by exact g1)).mono ?_; rintro e w' ⟨⟨x, cap, rfl, hR⟩, hA, hO⟩; have hc' := only_cell hO hBp (by assumption)) | (go_at_call 32; refine (SameTexts_any _ _ v.t _ HWf.out.2.2.2.2.1 hR (HR.out _ hO.undrew)).mono ?_; rintro e w'' ⟨rfl, m2, rfl⟩))
    go_wp2
    go_ret
    exact ⟨rfl, hA, (o1.trans hO.undrew).trans (Only.drewN _ _ _)⟩
end Go.Proofs.YtonfkmoocgpleaaDoor
