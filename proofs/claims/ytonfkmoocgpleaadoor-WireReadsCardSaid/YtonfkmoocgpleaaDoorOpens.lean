/- What a handed Value, and a handed []Value, hold; the table uint64pow10, off the row's list; a world for the witnesses. -/
import Derived.Test.YtonfkmoocgpleaaDoorRows
import Derived.Test.YtonfkmoocgpleaaDoorFew
import Derived.Test.YtonfkmoocgpleaaDoorFrame
import Derived.OpenShut
import Derived.ChangeMaps5
import Derived.ChangeSlices
import Derived.Deep.Strs
import Derived.Deep.DeepHandedRow
import Derived.Lib.LaidTab
import Derived.Lib.SmallJoins
import Derived.Stop.LaidErr
namespace Go.Proofs.YtonfkmoocgpleaaDoor
open Go.ChangeShapes Go.WideShapes Go.ChangeAt Go.RowKit Go.Deep

theorem own : ownKnob Tryd.prog.godebug = none := by kernel_rfl
theorem laidOut : laidOutB Tryd.prog = true := by kernel_rfl
theorem kcells9 : Tryd.prog.cellsOf 9 = 1 := by kernel_rfl
theorem kcells3 : Tryd.prog.cellsOf 3 = 1 := by kernel_rfl
theorem kcells22 : Tryd.prog.cellsOf 22 = 1 := by kernel_rfl
theorem kcells23 : Tryd.prog.cellsOf 23 = 1 := by kernel_rfl
theorem kcells25 : Tryd.prog.cellsOf 25 = 5 := by kernel_rfl
theorem kcells56 : Tryd.prog.cellsOf 56 = 1 := by kernel_rfl
theorem kcells86 : Tryd.prog.cellsOf 86 = 20 := by kernel_rfl
theorem read9 : Tryd.prog.readableRec 9 = true := by kernel_rfl
theorem row9 : 9 < Tryd.prog.types.size := of_decide_eq_true (by kernel_rfl)
theorem read25 : Tryd.prog.readableRec 25 = true := by kernel_rfl
theorem row25 : 25 < Tryd.prog.types.size := of_decide_eq_true (by kernel_rfl)
theorem read28 : Tryd.prog.readableRec 28 = true := by kernel_rfl
theorem row28 : 28 < Tryd.prog.types.size := of_decide_eq_true (by kernel_rfl)
theorem gPow : Tryd.prog.globalNamed "internal/strconv.uint64pow10" = some 0 := by kernel_rfl
theorem gPowType : (Tryd.prog.globals[0]?).map (·.type) = some 86 := by kernel_rfl

/-- WHAT A ROW's LIST GIVES: the table of powers (third on the list). -/
theorem tab_of {W : World} (h : laidMetH Tryd.prog Rows.wireWritesRow.laid W) : Tab W :=
  Lib.tabIs_of_head (rest := []) gPow gPowType Tryd.underlying86 Tryd.underlying56 kcells56 kcells86 (laidMet.tail (x := ("math/bits.deBruijn64tab", Rows.laid_math_bits_deBruijn64tab)) (laidMet.tail (x := ("math/bits.deBruijn32tab", Rows.laid_math_bits_deBruijn32tab)) h))

theorem lit_i64 {n : Int} (h : (Lit.int .i64 n).wf = true) : -9223372036854775808 ≤ n ∧ n ≤ 9223372036854775807 := by
  have : IntKind.i64.min ≤ n ∧ n ≤ IntKind.i64.max := by simpa [Lit.wf] using h
  exact this

instance : Inhabited V := ⟨⟨0, 0, ⟨#[]⟩, [], []⟩⟩
instance : Inhabited Value := ⟨.bool false⟩

section
variable {H : Type} {enc : TypeId × Value → H} {W : World}

theorem ints_row {fuel : Nat} {c : Value} {x : DataW H × List MemPlace} (h : DataW.trod enc Tryd.prog W 0 (fun _ => true) true fuel 22 [c] = some x) :
    ∃ xs : List Int, Row (Value.int .i64) W W.heap.size c xs ∧ (∀ y ∈ xs, -9223372036854775808 ≤ y ∧ y ≤ 9223372036854775807) ∧ xs.length ≤ 9223372036854775807 := by
  rcases open_ints Tryd.underlying22 Tryd.underlying3 kcells3 h with ⟨hcs, _⟩ | ⟨a, len, cap, zs, hcs, _, hl, hm, hz, _, hcell, hwf⟩
  · simp only [List.cons.injEq, and_true] at hcs
    subst hcs
    exact ⟨[], ⟨none, 0, rfl, fun j hj => by simp at hj⟩, by simp, by simp⟩
  · simp only [List.cons.injEq, and_true] at hcs
    subst hcs
    simp only [if_true] at hz
    unfold maxLen at hm
    refine ⟨zs.take len, ⟨some a, cap, by simp [hz, hl], fun j hj => ?_⟩, fun y hy => ?_, by simp; omega⟩
    · have hj' : j < len := by simp at hj; omega
      obtain ⟨b, off, spot⟩ := a
      have hspot : spot = none := by simpa [Addr.add] using World.cell?_spot (hcell 0 (by omega))
      subst hspot
      have h1 := hcell j (by omega)
      rw [Go.WideShapes.add_plain] at h1
      refine ⟨b, off, World.block_lt_of_cell? W _ h1, rfl, ?_⟩
      rw [h1, List.getElem_take]; simp [List.getD, show j < zs.length by omega]
    · have := hwf y (List.mem_of_mem_take hy)
      exact lit_i64 this

theorem strs_row {fuel : Nat} {c : Value} {x : DataW H × List MemPlace} (h : DataW.trod enc Tryd.prog W 0 (fun _ => true) true fuel 23 [c] = some x) :
    ∃ xs : List ByteArray, Row Value.string W W.heap.size c xs ∧ (∀ y ∈ xs, y.size ≤ 9223372036854775807) ∧ xs.length ≤ 9223372036854775807 := by
  rcases open_strs Tryd.underlying23 Tryd.underlying9 kcells9 h with ⟨hcs, _⟩ | ⟨a, len, cap, m, Sx, hcs, _, hl, hm, hmm, _, hcell⟩
  · simp only [List.cons.injEq, and_true] at hcs
    subst hcs
    exact ⟨[], ⟨none, 0, rfl, fun j hj => by simp at hj⟩, by simp, by simp⟩
  · simp only [List.cons.injEq, and_true] at hcs
    subst hcs
    simp only [if_true] at hmm
    subst hmm
    unfold maxLen at hm
    refine ⟨(List.range len).map Sx, ⟨some a, m, by simp, fun j hj => ?_⟩, fun y hy => ?_, by simp; omega⟩
    · have hj' : j < len := by simpa using hj
      obtain ⟨b, off, spot⟩ := a
      have hspot : spot = none := by simpa [Addr.add] using World.cell?_spot (hcell 0 (by omega)).1
      subst hspot
      have h1 := (hcell j (by omega)).1
      rw [Go.WideShapes.add_plain] at h1
      refine ⟨b, off, World.block_lt_of_cell? W _ h1, rfl, ?_⟩
      rw [h1]; simp
    · obtain ⟨j, hj, rfl⟩ := List.mem_map.1 hy
      have := (hcell j (by have := List.mem_range.1 hj; omega)).2
      unfold maxLen at this; exact this

theorem value_cells {fuel : Nat} {cs : List Value} {x : DataW H × List MemPlace} (h : DataW.trod enc Tryd.prog W 0 (fun _ => true) true fuel 25 cs = some x) :
    ∃ v lv tv, cs = [.int .i64 v.kind, .int .i64 v.n, .string v.s, lv, tv] ∧ VAt W W.heap.size lv tv v := by
  obtain ⟨xs, n, _, rfl, hl, hlen, hf⟩ := DataW.trod_struct Tryd.underlying25 h
  rw [kcells25] at hl
  obtain ⟨c0, c1, c2, c3, c4, rfl⟩ : ∃ c0 c1 c2 c3 c4, cs = [c0, c1, c2, c3, c4] := by
    match cs, hl with
    | [c0, c1, c2, c3, c4], _ => exact ⟨c0, c1, c2, c3, c4, rfl⟩
  have g0 : DataW.trod enc Tryd.prog W 0 (fun _ => true) true n 3 ([c0, c1, c2, c3, c4].take (Tryd.prog.cellsOf 3)) = xs[0]? := hf 0 _ rfl
  have g1 : DataW.trod enc Tryd.prog W 0 (fun _ => true) true n 3 ([c1, c2, c3, c4].take (Tryd.prog.cellsOf 3)) = xs[1]? := hf 1 _ rfl
  have g2 : DataW.trod enc Tryd.prog W 0 (fun _ => true) true n 9 ([c2, c3, c4].take (Tryd.prog.cellsOf 9)) = xs[2]? := hf 2 _ rfl
  have g3 : DataW.trod enc Tryd.prog W 0 (fun _ => true) true n 22 ([c3, c4].take (Tryd.prog.cellsOf 22)) = xs[3]? := hf 3 _ rfl
  have g4 : DataW.trod enc Tryd.prog W 0 (fun _ => true) true n 23 ([c4].take (Tryd.prog.cellsOf 23)) = xs[4]? := hf 4 _ rfl
  rw [kcells3] at g0 g1
  rw [kcells9] at g2
  rw [kcells22] at g3
  rw [kcells23] at g4
  match xs, hlen with
  | [y0, y1, y2, y3, y4], _ =>
    simp only [List.take_succ_cons, List.take_zero, List.getElem?_cons_zero, List.getElem?_cons_succ] at g0 g1 g2 g3 g4
    obtain ⟨k, hk, -, wk⟩ := DataW.trod_int Tryd.underlying3 g0
    obtain ⟨m, hm, -, wm⟩ := DataW.trod_int Tryd.underlying3 g1
    obtain ⟨s, hs, -, ws⟩ := DataW.trod_string Tryd.underlying9 g2
    obtain ⟨l, hl1, hl2, hl3⟩ := ints_row g3
    obtain ⟨t, ht1, ht2, ht3⟩ := strs_row g4
    simp only [List.cons.injEq, and_true] at hk hm hs
    subst hk hm hs
    refine ⟨⟨k, m, s, l, t⟩, c3, c4, rfl, hl1, ht1, ?_, ?_, hl2, hl3, ht3, ?_, ht2⟩
    · exact lit_i64 wk
    · exact lit_i64 wm
    · unfold maxLen at ws; exact ws

theorem value_open {v : Value} {d : DataW H} {p : List MemPlace} {r : Reach} {b0 : Nat} (hv : Value.okWide Tryd.prog W r b0 25 v) (h : DataW.Trod enc Tryd.prog W 0 (fun _ => true) true 25 v d p) :
    ∃ a lv tv, v = .agg #[.int .i64 a.kind, .int .i64 a.n, .string a.s, lv, tv] ∧ VAt W W.heap.size lv tv a := by
  obtain ⟨cs, rfl, _⟩ := okWide_struct Tryd.underlying25 hv
  obtain ⟨fuel, hf⟩ := h
  obtain ⟨a, lv, tv, hcs, ha⟩ := value_cells hf
  refine ⟨a, lv, tv, ?_, ha⟩
  simp only [Value.cells] at hcs
  rw [← hcs]

theorem values_open {v : Value} {d : DataW H} {p : List MemPlace} {r : Reach} {b0 : Nat} (hv : Value.okWide Tryd.prog W r b0 28 v) (h : DataW.Trod enc Tryd.prog W 0 (fun _ => true) true 28 v d p) :
    ∃ xs : List V, VRow W W.heap.size v xs ∧ xs.length ≤ 9223372036854775807 := by
  obtain ⟨x, len, cap, rfl⟩ := okWide_slice Tryd.underlying28 hv
  obtain ⟨fuel, hf⟩ := h
  rcases DataW.trod_slice Tryd.underlying28 hf with ⟨hcs, _⟩ | ⟨a, len', cap', elems, rest, n, _, hcs, _, _, hl, hm, hlen, hel, _, _⟩
  · simp [Value.cells] at hcs
    obtain ⟨rfl, rfl, rfl⟩ := hcs
    exact ⟨[], ⟨none, 0, rfl, fun j hj => by simp at hj⟩, by simp⟩
  · simp [Value.cells] at hcs
    obtain ⟨rfl, rfl, rfl⟩ := hcs
    rw [kcells25] at hel
    unfold maxLen at hm
    have each : ∀ i, i < len → ∃ z : V × Value × Value, VAt W W.heap.size z.2.1 z.2.2 z.1 ∧
        W.cells? 0 (a.add (i * 5)) 5 = some [.int .i64 z.1.kind, .int .i64 z.1.n, .string z.1.s, z.2.1, z.2.2] := fun i hi => by
      have h1 := hel i hi
      rw [List.getElem?_eq_getElem (by omega), Option.bind_eq_some_iff] at h1
      obtain ⟨cs, hcs, hd⟩ := h1
      obtain ⟨v, lv, tv, rfl, hv⟩ := value_cells hd
      exact ⟨(v, lv, tv), hv, hcs⟩
    obtain ⟨F, hF⟩ := choose_lt each
    refine ⟨(List.range len).map fun i => (F i).1, ⟨some a, cap, by simp, fun j hj => ?_⟩, by simp; omega⟩
    have hj' : j < len := by simpa using hj
    obtain ⟨b, off, spot⟩ := a
    obtain ⟨hvv, hc⟩ := hF j hj'
    have s0 := (World.cells?_some (hF 0 (by omega)).2).2.2 0 (by omega)
    have hcell := (World.cells?_some hc).2.2
    have e0 := hcell 0 (by omega)
    have hspot : spot = none := by simpa [Addr.add] using World.cell?_spot s0
    subst hspot
    have e1 := hcell 1 (by omega)
    have e2 := hcell 2 (by omega)
    have e3 := hcell 3 (by omega)
    have e4 := hcell 4 (by omega)
    simp only [Go.WideShapes.add_plain, List.getElem?_cons_zero, List.getElem?_cons_succ, Nat.add_zero] at e0 e1 e2 e3 e4
    refine ⟨b, off, (F j).2.1, (F j).2.2, World.block_lt_of_cell? W _ e0, rfl, ?_, ?_, ?_, ?_, e3, e4⟩
    · simpa using hvv
    · simpa using e0
    · simpa using e1
    · simpa using e2
end

/-- A WORLD FOR THE WITNESSES: the settled one, the three tables laid. -/
noncomputable def laidWorld (os : Os) : World :=
  { World.holding Tryd.prog os ⟨#[], #[], []⟩ with heap := ((((World.holding Tryd.prog os ⟨#[], #[], []⟩).heap.modify 0 fun
      | .cells _ t frozen => .cells #[.int .u64 1, .int .u64 10, .int .u64 100, .int .u64 1000, .int .u64 10000, .int .u64 100000, .int .u64 1000000, .int .u64 10000000, .int .u64 100000000, .int .u64 1000000000, .int .u64 10000000000, .int .u64 100000000000, .int .u64 1000000000000, .int .u64 10000000000000, .int .u64 100000000000000, .int .u64 1000000000000000, .int .u64 10000000000000000, .int .u64 100000000000000000, .int .u64 1000000000000000000, .int .u64 10000000000000000000] t frozen
      | o => o).modify 1 fun
      | .cells _ t frozen => .cells #[.int .u8 0, .int .u8 1, .int .u8 28, .int .u8 2, .int .u8 29, .int .u8 14, .int .u8 24, .int .u8 3, .int .u8 30, .int .u8 22, .int .u8 20, .int .u8 15, .int .u8 25, .int .u8 17, .int .u8 4, .int .u8 8, .int .u8 31, .int .u8 27, .int .u8 13, .int .u8 23, .int .u8 21, .int .u8 19, .int .u8 16, .int .u8 7, .int .u8 26, .int .u8 12, .int .u8 18, .int .u8 6, .int .u8 11, .int .u8 5, .int .u8 10, .int .u8 9] t frozen
      | o => o).modify 2 fun
      | .cells _ t frozen => .cells #[.int .u8 0, .int .u8 1, .int .u8 56, .int .u8 2, .int .u8 57, .int .u8 49, .int .u8 28, .int .u8 3, .int .u8 61, .int .u8 58, .int .u8 42, .int .u8 50, .int .u8 38, .int .u8 29, .int .u8 17, .int .u8 4, .int .u8 62, .int .u8 47, .int .u8 59, .int .u8 36, .int .u8 45, .int .u8 43, .int .u8 51, .int .u8 22, .int .u8 53, .int .u8 39, .int .u8 33, .int .u8 30, .int .u8 24, .int .u8 18, .int .u8 12, .int .u8 5, .int .u8 63, .int .u8 55, .int .u8 48, .int .u8 27, .int .u8 60, .int .u8 41, .int .u8 37, .int .u8 16, .int .u8 46, .int .u8 35, .int .u8 44, .int .u8 21, .int .u8 52, .int .u8 32, .int .u8 23, .int .u8 11, .int .u8 54, .int .u8 26, .int .u8 40, .int .u8 15, .int .u8 34, .int .u8 20, .int .u8 31, .int .u8 10, .int .u8 25, .int .u8 14, .int .u8 19, .int .u8 9, .int .u8 13, .int .u8 8, .int .u8 7, .int .u8 6] t frozen
      | o => o) }
end Go.Proofs.YtonfkmoocgpleaaDoor
