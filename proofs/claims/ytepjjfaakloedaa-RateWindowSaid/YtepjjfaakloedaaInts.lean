/- Slices of ints that a call makes: what an append leaves, in the words of lists of ints. -/
import Derived.Test.YtepjjfaakloedaaSmall
import Derived.Maps.AppendAt
import Derived.Laws.AppendOwnNone
namespace Go.Proofs.Ytepjjfaakloedaa
open Go.RowKit

theorem getD_of_lt (l : List Int) (j : Nat) (h : j < l.length) : l.getD j 0 = l[j] := by
  rw [List.getD_eq_getElem?_getD, List.getElem?_eq_getElem h]; rfl

theorem Try.info3 : (Try.prog.info? 3).map (fun i => (i.zero, i.size, i.bytes)) = some (some (.int .i64 0), 1, 8) := by kernel_rfl

/-- The slice that begins at block g's head owns the ints l. -/
def owns (w : World) (B g n cap : Nat) (l : List Int) : Prop :=
  w.ownsRow B 3 1 (.slice (some ⟨g, 0, none⟩) n cap) n (l.map (Value.int .i64))

theorem owns.len {w : World} {B g n cap : Nat} {l : List Int} (h : owns w B g n cap l) : l.length = n := by
  have := h.1; simpa using this
theorem owns.lt {w : World} {B g n cap : Nat} {l : List Int} (h : owns w B g n cap l) : B ≤ g ∧ g < w.heap.size := World.ownsRow.lt h g rfl
theorem owns.cap {w : World} {B g n cap : Nat} {l : List Int} (h : owns w B g n cap l) : n ≤ cap ∧ cap ≤ maxLen := by
  rcases h.2 with ⟨h, _⟩ | ⟨_, _, _, hv, _, _, h1, h2, _⟩
  · cases h
  · cases hv; exact ⟨h1, h2⟩
theorem owns.kept {w w' : World} {B g n cap : Nat} {l : List Int} {row : Option Nat} (h : owns w B g n cap l) (hg : w.grownBy w' row) (hne : some g ≠ row) : owns w' B g n cap l :=
  World.ownsRow.kept h hg (.inr hne)
theorem owns.below {w w' : World} {B g n cap : Nat} {l : List Int} (h : owns w B g n cap l) (hb : Below w.heap.size w w') : owns w' B g n cap l :=
  World.ownsRow.kept (row := none) h ⟨hb.os, hb.tape, hb.output, hb.size, fun k hk _ => hb.block k hk⟩ (.inr (by intro h; cases h))
theorem owns.alloc {w : World} {B g n cap : Nat} {l : List Int} (h : owns w B g n cap l) (o : Obj) : owns (w.alloc o) B g n cap l := World.ownsRow.alloc h o
theorem owns.cell {w : World} {B g n cap : Nat} {l : List Int} (h : owns w B g n cap l) (j : Nat) (hj : j < n) : w.cell? ⟨g, j, none⟩ = some (.int .i64 (l.getD j 0)) := by
  have hl := h.len
  have := World.ownsRow.cells h (g := g) rfl j (.int .i64 (l.getD j 0)) (by
    rw [List.getElem?_map, List.getElem?_eq_getElem (by omega), getD_of_lt _ _ (by omega)]; rfl)
  have hadd : (⟨g, 0, none⟩ : Addr).add j = ⟨g, j, none⟩ := by unfold Addr.add; split <;> simp_all
  rw [hadd] at this
  exact this

theorem owns_made (w : World) (B : Nat) (hB : B ≤ w.heap.size) : owns (w.alloc (.cells #[] 3)) B w.heap.size 0 0 [] := by
  refine ⟨by simp, .inr ⟨w.heap.size, 0, #[], rfl, hB, heap_alloc_new w _, Nat.le_refl _, by unfold maxLen; omega, by simp, by simp⟩⟩

section
variable {w : World} {ops : Array Oper} {rest : List Oper} {o : Oper} {a : Act} {Q : Exit → Act → World → Prop}

/-- append onto a slice that the call owns and that is not nil. -/
theorem app_own (hgd : o.guard = none) (s x : Operand) (ho : o.op = .call { callee := .builtin .append, args := #[s, x], argTypes := #[24, 24] })
    (B g n cap : Nat) (l : List Int) (hs : a.eval s = .slice (some ⟨g, 0, none⟩) n cap) (hown : owns w B g n cap l)
    (ad : Addr) (m c : Nat) (r : List Int) (hx : a.eval x = .slice (some ad) m c) (hl : r.length = m) (hr : ∀ j, j < m → w.cell? (ad.add j) = some (.int .i64 (r.getD j 0)))
    (h63 : n + m ≤ 1000000) (hB : B ≤ w.heap.size)
    (h : ∀ g' cap' w', owns w' B g' (n + m) cap' (l ++ r) → w.grownBy w' (some g) → (g' = g ∨ g' = w.heap.size) → g' < w'.heap.size → wpList Try.prog ops Q rest (a.put o.dst (.slice (some ⟨g', 0, none⟩) (n + m) cap')) w') :
    wpList Try.prog ops Q (o :: rest) a w := by
  obtain ⟨i0, hi, hz0, hz1, hz2⟩ := info_parts Try.info3
  refine wpList_append_own_at w hgd s x 24 ho B 3 i0 (.int .i64 0) 1 8 Try.underlying24 hi hz0 hz1 hz2 rfl (by decide) _ n _ hs hown ad m c (r.map (Value.int .i64)) hx (by simp [hl])
    (fun j u hj => ?_) (fun u hu => ?_) (by unfold maxLen; omega) (by omega) hB ?_
  · rw [List.getElem?_map] at hj
    have hjl : j < r.length := by
      rcases Nat.lt_or_ge j r.length with h | h
      · exact h
      · rw [List.getElem?_eq_none h] at hj; cases hj
    rw [List.getElem?_eq_getElem hjl] at hj
    have hu : u = .int .i64 (r.getD j 0) := by
      rw [getD_of_lt _ _ hjl]; simpa using hj.symm
    rw [hu]; exact hr j (by omega)
  · obtain ⟨z, _, rfl⟩ := List.mem_map.1 hu; rfl
  · intro v' w' h1 h2 h3 h4
    rw [← List.map_append] at h1
    rcases h1.2 with ⟨hv, _⟩ | ⟨g', cap', cur, hv, hb, hg, _⟩
    · have := (h3.1 hv).1; cases this
    · subst hv
      have hlt : g' < w'.heap.size := by
        rcases Nat.lt_or_ge g' w'.heap.size with hlt | hge
        · exact hlt
        · rw [Array.getElem?_eq_none hge] at hg; cases hg
      refine h g' cap' w' h1 h2 ?_ hlt
      rcases h4 with h4 | h4
      · left; simpa [Value.ownBlock] using h4
      · right; simpa [Value.ownBlock] using h4

/-- append of something onto nil. -/
theorem app_nil (hgd : o.guard = none) (s x : Operand) (ho : o.op = .call { callee := .builtin .append, args := #[s, x], argTypes := #[24, 24] })
    (B : Nat) (hs : a.eval s = .slice none 0 0)
    (ad : Addr) (m c : Nat) (r : List Int) (hx : a.eval x = .slice (some ad) m c) (hl : r.length = m) (hr : ∀ j, j < m → w.cell? (ad.add j) = some (.int .i64 (r.getD j 0)))
    (hm : 0 < m) (h63 : m ≤ 1000000) (hB : B ≤ w.heap.size)
    (h : ∀ cap' w', owns w' B w.heap.size m cap' r → w.grownBy w' none → w.heap.size < w'.heap.size → wpList Try.prog ops Q rest (a.put o.dst (.slice (some ⟨w.heap.size, 0, none⟩) m cap')) w') :
    wpList Try.prog ops Q (o :: rest) a w := by
  obtain ⟨i0, hi, hz0, hz1, hz2⟩ := info_parts Try.info3
  refine wpList_append_own_at w hgd s x 24 ho B 3 i0 (.int .i64 0) 1 8 Try.underlying24 hi hz0 hz1 hz2 rfl (by decide) _ 0 [] hs (World.ownsRow_nil _ _ _ _) ad m c (r.map (Value.int .i64)) hx (by simp [hl])
    (fun j u hj => ?_) (fun u hu => ?_) (by unfold maxLen; omega) (by omega) hB ?_
  · rw [List.getElem?_map] at hj
    have hjl : j < r.length := by
      rcases Nat.lt_or_ge j r.length with h | h
      · exact h
      · rw [List.getElem?_eq_none h] at hj; cases hj
    rw [List.getElem?_eq_getElem hjl] at hj
    have hu : u = .int .i64 (r.getD j 0) := by
      rw [getD_of_lt _ _ hjl]; simpa using hj.symm
    rw [hu]; exact hr j (by omega)
  · obtain ⟨z, _, rfl⟩ := List.mem_map.1 hu; rfl
  · intro v' w' h1 h2 h3 h4
    simp only [Nat.zero_add, List.nil_append] at h1
    rcases h1.2 with ⟨hv, _⟩ | ⟨g', cap', cur, hv, hb, hg, _⟩
    · have := (h3.1 hv).2; omega
    · subst hv
      have hlt : g' < w'.heap.size := by
        rcases Nat.lt_or_ge g' w'.heap.size with hlt | hge
        · exact hlt
        · rw [Array.getElem?_eq_none hge] at hg; cases hg
      have hgs : g' = w.heap.size := by
        rcases h4 with h4 | h4
        · simp [Value.ownBlock] at h4
        · simpa [Value.ownBlock] using h4
      subst hgs
      exact h cap' w' h1 h2 hlt
end

/-- The one cell of a block that was just made. -/
theorem one_new (w : World) (t : Int) (H : Nat) (hH : w.heap.size = H) : ∀ j, j < 1 → (w.alloc (.cells #[.int .i64 t] 3)).cell? ((⟨H, 0, none⟩ : Addr).add j) = some (.int .i64 ([t].getD j 0)) := by
  intro j hj
  obtain rfl : j = 0 := by omega
  subst hH
  have : (⟨w.heap.size, 0, none⟩ : Addr).add 0 = ⟨w.heap.size, 0, none⟩ := by unfold Addr.add; split <;> simp_all
  rw [this]
  simp [go_sem]

/-- An empty row that was made, behind one block more or none. -/
theorem empty_row (w : World) (B H : Nat) (hB : B ≤ w.heap.size) (hH : w.heap.size = H) : owns (w.alloc (.cells #[] 3)) B H 0 0 [] := by
  subst hH; exact owns_made w B hB

theorem grownBy_below {w0 w w' : World} {g : Nat} (h : Below w0.heap.size w0 w) (hg : w.grownBy w' (some g)) (hz : w0.heap.size ≤ w.heap.size) (hr : w0.heap.size ≤ g) : Below w0.heap.size w0 w' :=
  h.grown hg hz (fun k hk => by cases hk; exact hr)


theorem owns_at {w : World} {B g n cap : Nat} {l : List Int} (h : owns w B g n cap l) (j m : Nat) (hm : j + m ≤ n) (r : List Int) (hr : ∀ i, i < m → r.getD i 0 = l.getD (j + i) 0) :
    ∀ i, i < m → w.cell? ((⟨g, j, none⟩ : Addr).add i) = some (.int .i64 (r.getD i 0)) := by
  intro i hi
  have : (⟨g, j, none⟩ : Addr).add i = ⟨g, j + i, none⟩ := by unfold Addr.add; split <;> simp_all
  rw [this, h.cell (j + i) (by omega), hr i hi]
theorem getD_take (l : List Int) (j i : Nat) (h : i < j) : (l.take j).getD i 0 = l.getD i 0 := by
  rw [List.getD_eq_getElem?_getD, List.getD_eq_getElem?_getD, List.getElem?_take, if_pos h]
theorem getD_drop (l : List Int) (j i : Nat) : (l.drop j).getD i 0 = l.getD (j + i) 0 := by
  rw [List.getD_eq_getElem?_getD, List.getD_eq_getElem?_getD, List.getElem?_drop]

end Go.Proofs.Ytepjjfaakloedaa
