/- The words of a string as a slice. -/
import Derived.Maps.AppendAt
import Derived.RangeFuncNested
import Derived.Deep.Onto
import Derived.Test.YthnpedkinelemaaIter
namespace Go.Proofs.Ythnpedkinelemaa
open Go.RowKit Go.Shelf

attribute [local go_sem] Oper.semAt_some

theorem words_stops (F : Fence) (n : Nat) (h34 : F.fn 34) (h27 : F.fn 27) (hro : F.round = none) (hn : 1 ≤ n) (Bs : Nat) (s : ByteArray) (hs : s.size ≤ 1000000) (w : World) (hn₀ : Bs < w.heap.size)
    (hc : w.cell? ⟨Bs, 0, none⟩ = some (.string s)) :
    SeqStopsK F n Try.prog 34 #[.pointer (some ⟨Bs, 0, none⟩)] (fun x : ByteArray => #[Value.string x]) (KeepCell Bs) (fun ys => lists ys = wordsP whiteB s.data.toList) (fun pre => lists pre <+: wordsP whiteB s.data.toList) s.size w := fun l J Jx W hW _ _ hY h0 =>
  words1_in F n h34 h27 hro hn l Bs s hs J Jx (fun pre x W hJ hl _ => hY pre x W hJ hl) W ((hW.cell (p := ⟨Bs, 0, none⟩) hn₀).trans hc) h0

theorem keepCell_t {Bs : Nat} {A B C : World} (h : KeepCell Bs A B) (h' : KeepCell Bs B C) : KeepCell Bs A C := h'.trans h
theorem keepCell_b {Bs : Nat} {w : World} (hlt : Bs < w.heap.size) (W : World) (l : Nat) (o o' : Obj) (hl : w.heap.size ≤ l) (_ : W.heap[l]? = some o) (_ : o.isCells = false) (_ : o.isWalk = false) : KeepCell Bs W (W.putObj l o') := by
  show (W.putObj l o').cell? _ = W.cell? _
  simp only [World.cell?]
  rw [World.putObj_heap_other (by omega)]
theorem Boxed.keepCell {A B : World} {Bs : Nat} {t t' : TypeId} {v : Value} (h : Boxed A Bs t v) (h' : Boxed B Bs t' v) : KeepCell Bs A B := h'.cell.trans h.cell.symm

/-- The values of a list of strings. -/
def strVals (xs : List ByteArray) : List Value := xs.map Value.string

theorem infoStr : (Try.prog.info? 9).map (fun i => (i.zero, i.size, i.bytes)) = some (some (.string ByteArray.empty), 1, 16) := by kernel_rfl

set_option maxRecDepth 100000 in
set_option maxHeartbeats 2000000 in
theorem Fields_in (F : Fence) (n : Nat) (h13 : F.fn 13) (h26 : F.fn 26) (h34 : F.fn 34) (h27 : F.fn 27) (hro : F.round = none) (hn : 3 ≤ n) (s : ByteArray) (hs : s.size ≤ 1000000) (w : World) :
    CallsIn F n Try.prog 13 #[.string s] w fun e W' => ∃ (v : Value) (ys : List ByteArray), e = .returned v ∧ lists ys = wordsP whiteB s.data.toList ∧ W'.ownsRow w.heap.size 9 1 v ys.length (strVals ys) ∧ Below w.heap.size w W' := by
  have h1 : 1 ≤ n := by omega
  obtain ⟨i0, hi, hz0, hz1, hz2⟩ := info_parts infoStr
  refine callsIn_of_wp_marks Try.func13 rfl h13 ?_ hro
  simp only [Try.ntmps13, List.size_toArray, List.length_cons, List.length_nil, Nat.reduceAdd, Nat.reduceSub, Array.replicate_succ, Array.replicate_zero, List.push_toArray, List.append_toArray, List.nil_append, List.cons_append]
  gi_wp2_with (gi_at_call 26; refine (words_in F (n - 1) h26 hro _ _).mono ?_; rintro e w' ⟨rfl, rfl⟩)
  have bO := Boxed.new w 22 (.slice none 0 0)
  have bN := Boxed.new (w.alloc (.cells #[.slice none 0 0] 22)) 9 (.string s)
  rw [World.size_alloc] at bN
  have hB0 : Below w.heap.size w ((w.alloc (.cells #[.slice none 0 0] 22)).alloc (.cells #[.string s] 9)) := ((Below.refl _ w).alloc (Nat.le_refl _) _).alloc (by simp) _
  refine wpIn_rangeFunc_ownG hro h1 (gf := 34) (lb := #[.pointer (some ⟨w.heap.size + 1, 0, none⟩)]) rfl h34 (enters_of Try.func34 (by kernel_rfl) rfl)
    (words_stops F (n - 1) h34 h27 hro (by omega) (w.heap.size + 1) s hs _ (by simp) bN.cell) keepCell_t (keepCell_b (by simp)) (Below.refl _ _) (fun _ => rfl)
    (fun pre W => ((∃ v, Boxed W w.heap.size 22 v ∧ W.ownsRow (w.heap.size + 2) 9 1 v pre.length (strVals pre) ∧ True) ∧ Boxed W (w.heap.size + 1) 9 (.string s)) ∧ Below w.heap.size w W)
    (fun _ _ _ => False)
    (OwnFrom.and (OwnFrom.and (Own.from (holdsRow_own (w.heap.size + 2) w.heap.size 22 9 1 (fun pre => pre.length) (fun pre => strVals pre) (fun _ _ => True)) _) (Own.from (boxed_own (w.heap.size + 1) 9 fun _ => .string s) _)) (ownFrom_below (Nat.le_refl _) (by simp; omega)))
    (fun _ _ _ _ _ hs _ _ => hs)
    ⟨⟨⟨_, bO.alloc _, World.ownsRow_nil _ _ _ _, trivial⟩, bN⟩, hB0⟩
    (fun x => { tmps := #[.string s, undef, .slice none 0 0, .pointer (some ⟨w.heap.size, 0, none⟩), .string x, .string s, .func (.func 34) #[] #[.pointer (some ⟨w.heap.size + 1, 0, none⟩)], .string x, undef, undef, undef, undef, undef], defers := [] }) ?assign ?body ?done ?stop
  case assign =>
    intro l x W K hK
    gi_wp2
    exact hK
  case body =>
    rintro l pre x W ⟨⟨⟨v, hv, hrow, _⟩, hbs⟩, hB⟩ hlt
    have hc := hv.cell
    have hWs : w.heap.size + 2 ≤ W.heap.size := by have := hbs.lt; omega
    gi_wp2_with (gi_at_builtin; refine wpListIn_append_own _ rfl _ _ 22 rfl (w.heap.size + 2) 9 i0 (.string ByteArray.empty) 1 16 Try.underlying22 hi hz0 hz1 hz2 rfl (by decide) _ _ _ rfl (hrow.alloc _) ⟨W.heap.size, 0, none⟩ 1 1 [.string x] rfl rfl (cell_one_new _ _ _) (by simp [Value.oneCell']) (by unfold maxLen; omega) (by omega) (by simp; omega) ?_; intro v' w1 hown' hgrow _; obtain ⟨g', cap', rfl⟩ := ownsRow_succ hown'; obtain ⟨hv1, hv2, hr2, hk2, hb2⟩ := hv.appended (by decide) (hrow.mono (by omega)) hB.size (Nat.le_refl _) (hown'.mono (by omega)) hgrow; have hc1 := hv1.cell; have hf1 := hv1.frozen)
    have hbs2 : Boxed (w1.setCell ⟨w.heap.size, 0, none⟩ (.slice (some ⟨g', 0, none⟩) (pre.length + 1) cap')) (w.heap.size + 1) 9 (.string s) := by
      refine ((hbs.alloc (.cells #[.string x] 9)).kept hgrow (fun e => ?_)).other (by omega) _
      have := hrow.lt _ e.symm; omega
    exact ⟨hk2.from _, Boxed.keepCell hbs hbs2, ⟨⟨_, hv2, by simpa [strVals] using ownsRow_setCell_below hown' (a := ⟨w.heap.size, 0, none⟩) (by simp) _, trivial⟩, hbs2⟩, hB.trans hb2⟩
  case done =>
    rintro D ys W hD hys ⟨⟨⟨v, hv, hrow, _⟩, hbs⟩, hB⟩ hK
    have hc := hv.cell
    gi_wp2
    refine ⟨by simp, .inl ⟨_, _, rfl, run_takeDeferred hK, ?_⟩⟩
    exact ⟨_, results_tmp rfl _ _ _, v, ys, rfl, hys, (ownsRow_putObj hrow _ hK rfl).mono (by omega), hB.trans (belowK_b (w := w) (Nat.le_refl _) W D _ _ (by simp at hD; omega) hK rfl rfl)⟩
  case stop =>
    rintro D c pre W _ _ h _
    exact h.elim
end Go.Proofs.Ythnpedkinelemaa
