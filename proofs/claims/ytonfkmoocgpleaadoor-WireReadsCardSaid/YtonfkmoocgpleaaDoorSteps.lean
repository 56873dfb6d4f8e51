/- Each method of the two readers as one step: the same value, the same rest, the same failure. -/
import Derived.Test.YtonfkmoocgpleaaDoorRefElems
import Derived.Test.YtonfkmoocgpleaaDoorSames
namespace Go.Proofs.YtonfkmoocgpleaaDoor
open Go.RowKit

theorem fLeft_any (w : World) (p : Nat) (r : ByteArray) (b : Bool) (h : RAt 55 w p r b) :
    Calls Tryd.prog 36 #[.pointer (some ⟨p, 0, none⟩)] w fun e w' => e = .returned (.int .i64 r.size) ∧ w = w' := by
  have c0 := h.cell0
  go_enter Tryd.func36, Tryd.ntmps36
  go_wp2
  go_ret
  exact ⟨rfl, rfl⟩
theorem fDone_any (w : World) (p : Nat) (r : ByteArray) (b : Bool) (h : RAt 55 w p r b) :
    Calls Tryd.prog 38 #[.pointer (some ⟨p, 0, none⟩)] w fun e w' => e = .returned (.bool (!b && r.data.toList.isEmpty)) ∧ w = w' := by
  have c0 := h.cell0
  have c1 := h.cell1
  rw [← Lib.toList_data]
  cases b
  · go_enter Tryd.func38, Tryd.ntmps38
    go_wp2
    go_ret
    exact ⟨ret_bool (by simp), rfl⟩
  · go_enter Tryd.func38, Tryd.ntmps38
    go_wp2
    go_ret
    exact ⟨ret_bool (by simp), rfl⟩
theorem fOpen_any (w : World) (r : ByteArray) :
    Calls Tryd.prog 21 #[.string r] w fun e w' => e = .returned (.pointer (some ⟨w.heap.size, 0, none⟩)) ∧ RAt 55 w' w.heap.size r false ∧ Kept w w' := by
  go_enter Tryd.func21, Tryd.ntmps21
  go_wp2
  go_ret
  exact ⟨rfl, World.alloc_heap_new w _, (Below.refl _ w).alloc (Nat.le_refl _) _⟩

variable {α : Type}
def outV (zero : α) (res : Option (α × List UInt8)) : α := match res with
  | some x => x.1
  | none => zero
def outR (res : Option (α × List UInt8)) : ByteArray := match res with
  | some x => ⟨x.2.toArray⟩
  | none => ⟨#[]⟩
def outB (res : Option (α × List UInt8)) (b : Bool) : Bool := match res with
  | some _ => b
  | none => true

def Stepped (T : TypeId) (v : Value) (R : ByteArray) (B : Bool) (p : Nat) (w : World) (e : Ending) (w' : World) : Prop := e = .returned v ∧ RAt T w' p R B ∧ Only p w w'
def SteppedL (T E : TypeId) (enc : α → Value) (vs : List α) (R : ByteArray) (B : Bool) (p : Nat) (w : World) (e : Ending) (w' : World) : Prop :=
  (∃ v, e = .returned v ∧ w'.ownsRow w.heap.size E 1 v vs.length (vs.map enc)) ∧ RAt T w' p R B ∧ Only p w w'

theorem step_read {enc : α → Value} {zero : Value} {z : α} (hz : enc z = zero) {w w' : World} {p : Nat} {b : Bool} {res : Option (α × List UInt8)} {e : Ending} (h : ReadPost enc zero w p b res e w') : Stepped 53 (enc (outV z res)) (outR res) (outB res b) p w e w' := by
  cases res with
  | none => obtain ⟨o, he, g⟩ := h; exact ⟨he.trans (by rw [← hz]; rfl), g, o⟩
  | some x =>
    obtain ⟨v, rest⟩ := x
    obtain ⟨o, he, r', hr, g⟩ := h
    have hr2 : r' = (⟨rest.toArray⟩ : ByteArray) := string_eq hr
    rw [hr2] at g
    exact ⟨he, g, o⟩
theorem step_ref {enc : α → Value} {zero : Value} {z : α} (hz : enc z = zero) {w w' : World} {p : Nat} {b : Bool} {res : Option (α × List UInt8)} {e : Ending} (h : RPost enc zero w p b res e w') : Stepped 55 (enc (outV z res)) (outR res) (outB res b) p w e w' := by
  cases res with
  | none => obtain ⟨o, he, g⟩ := h; exact ⟨he.trans (by rw [← hz]; rfl), g, o⟩
  | some x =>
    obtain ⟨v, rest⟩ := x
    obtain ⟨o, he, r', hr, g⟩ := h
    have hr2 : r' = (⟨rest.toArray⟩ : ByteArray) := string_eq hr
    rw [hr2] at g
    exact ⟨he, g, o⟩
theorem step_list {enc : α → Value} {E : TypeId} {w w' : World} {p : Nat} {b : Bool} {res : Option (List α × List UInt8)} {e : Ending} (h : ListPost enc E w p b res e w') : SteppedL 53 E enc (outV [] res) (outR res) (outB res b) p w e w' := by
  cases res with
  | none => obtain ⟨o, he, g⟩ := h; exact ⟨⟨_, he, World.ownsRow_nil _ _ _ _⟩, g, o⟩
  | some x =>
    obtain ⟨v, rest⟩ := x
    obtain ⟨o, he, r', hr, g⟩ := h
    have hr2 : r' = (⟨rest.toArray⟩ : ByteArray) := string_eq hr
    rw [hr2] at g
    exact ⟨he, g, o⟩
theorem step_listRef {enc : α → Value} {E : TypeId} {w w' : World} {p : Nat} {b : Bool} {res : Option (List α × List UInt8)} {e : Ending} (h : LPost enc E w p b res e w') : SteppedL 55 E enc (outV [] res) (outR res) (outB res b) p w e w' := by
  cases res with
  | none => obtain ⟨o, he, g⟩ := h; exact ⟨⟨_, he, World.ownsRow_nil _ _ _ _⟩, g, o⟩
  | some x =>
    obtain ⟨v, rest⟩ := x
    obtain ⟨o, he, r', hr, g⟩ := h
    have hr2 : r' = (⟨rest.toArray⟩ : ByteArray) := string_eq hr
    rw [hr2] at g
    exact ⟨he, g, o⟩

/-- What the next round wants of the rest and the failure. -/
theorem out_facts {res : Option (α × List UInt8)} {b : Bool} {r : ByteArray} (hless : ∀ v rest, res = some (v, rest) → rest.length < r.data.toList.length) (hb : b = true → r.data.toList = []) (hz : r.size ≤ 400) :
    (outR res).size ≤ 400 ∧ (outB res b = true → (outR res).data.toList = []) := by
  cases res with
  | none => exact ⟨Nat.zero_le _, fun _ => rfl⟩
  | some x =>
    obtain ⟨v, rest⟩ := x
    have h := hless v rest rfl
    have h2 : r.data.toList.length = r.size := rfl
    refine ⟨by show rest.length ≤ 400; omega, fun h3 => ?_⟩
    have h4 := hb h3
    rw [h4] at h; simp at h

theorem elems_len {one : List UInt8 → Option (α × List UInt8)} (hone : ∀ l v rest, one l = some (v, rest) → rest.length < l.length) : ∀ (n : Nat) (l : List UInt8) (vs : List α) (rest : List UInt8), elemsP one n l = some (vs, rest) → vs.length + rest.length ≤ l.length
  | 0, l, vs, rest, h => by cases h; simp
  | n + 1, l, vs, rest, h => by
    unfold elemsP at h
    cases h1 : one l with
    | none => rw [h1] at h; cases h
    | some x =>
      obtain ⟨v, l2⟩ := x
      rw [h1] at h
      simp only at h
      cases h2 : elemsP one n l2 with
      | none => rw [h2] at h; cases h
      | some y =>
        obtain ⟨us, l3⟩ := y
        rw [h2] at h
        have h3 := elems_len hone n l2 us l3 h2
        have h4 := hone l v l2 h1
        cases h
        simp only [List.length_cons]; omega
theorem list_len {one : List UInt8 → Option (α × List UInt8)} (hone : ∀ l v rest, one l = some (v, rest) → rest.length < l.length) {l : List UInt8} {vs : List α} {rest : List UInt8} (h : listP one l = some (vs, rest)) : vs.length + rest.length < l.length := by
  unfold listP at h
  split at h
  · rename_i n t hn
    have h1 := numP_less hn
    cases h2 : elemsP one n t with
    | none => rw [h2] at h; cases h
    | some y =>
      obtain ⟨us, l3⟩ := y
      have h3 := elems_len hone n t us l3 h2
      rw [h2] at h
      unfold closeP at h
      split at h
      · rename_i ws d t' he
        split at h
        · cases h
          cases he
          simp only [List.length_cons] at h3; omega
        · cases h
      · cases h
  · cases h
theorem outV_len {one : List UInt8 → Option (α × List UInt8)} (hone : ∀ l v rest, one l = some (v, rest) → rest.length < l.length) (l : List UInt8) : (outV [] (listP one l)).length ≤ l.length := by
  cases h : listP one l with
  | none => exact Nat.zero_le _
  | some x =>
    obtain ⟨vs, rest⟩ := x
    have := list_len hone h
    show vs.length ≤ _; omega
end Go.Proofs.YtonfkmoocgpleaaDoor
