/- The words of a string with single spaces between them. -/
import Derived.Test.YthnpedkinelemaaFields
import Derived.Test.YthnpedkinelemaaShelf
namespace Go.Proofs.Ythnpedkinelemaa
open Go.RowKit Go.Shelf

attribute [local go_sem] Oper.semAt_some

/-- A string of at most m bytes. -/
abbrev Short (m : Nat) : Type := { b : ByteArray // b.size ≤ m }
def shorts {m : Nat} (pre : List (Short m)) : List ByteArray := pre.map fun b => b.1

theorem words_stops2 (F : Fence) (n : Nat) (h34 : F.fn 34) (h27 : F.fn 27) (hro : F.round = none) (hn : 1 ≤ n) (Bs : Nat) (s : ByteArray) (hs : s.size ≤ 1000000) (w : World) (hn₀ : Bs < w.heap.size)
    (hc : w.cell? ⟨Bs, 0, none⟩ = some (.string s)) :
    SeqStopsK F n Try.prog 34 #[.pointer (some ⟨Bs, 0, none⟩)] (fun x : Short s.size => #[Value.string x.1]) (KeepCell Bs) (fun ys => lists (shorts ys) = wordsP whiteB s.data.toList) (fun pre => lists (shorts pre) <+: wordsP whiteB s.data.toList) s.size w := by
  intro l J Jx W hW _ _ hY h0
  refine (words1_in F n h34 h27 hro hn l Bs s hs (fun pre W => ∃ p, shorts p = pre ∧ J p W) (fun pre W => ∃ p, shorts p = pre ∧ Jx p W) ?_ W ((hW.cell (p := ⟨Bs, 0, none⟩) hn₀).trans hc) ⟨[], rfl, h0⟩).mono ?_
  · rintro pre x W ⟨p, rfl, hJ⟩ hl hx
    obtain ⟨fn, tmps, assign, body, hy, hR⟩ := hY p ⟨x, hx⟩ W hJ (by simpa [shorts] using hl)
    refine ⟨fn, tmps, assign, body, hy, hR.mono ?_⟩
    rintro e W' (⟨rfl, hJ', hk⟩ | ⟨rfl, hJ'⟩)
    · exact .inl ⟨rfl, ⟨_, by simp [shorts], hJ'⟩, hk⟩
    · exact .inr ⟨rfl, ⟨_, by simp [shorts], hJ'⟩⟩
  · rintro e W' ⟨hv, ⟨ys, hys, p, rfl, hJ⟩ | ⟨pre, hpre, p, rfl, hJ⟩⟩
    · exact ⟨hv, .inl ⟨p, hys, hJ⟩⟩
    · exact ⟨hv, .inr ⟨p, hpre, hJ⟩⟩

/-- One word behind what was written. -/
def sqStep (acc x : List UInt8) : List UInt8 := (if 0 < acc.length then acc ++ [32] else acc) ++ x
def sqP (xs : List (List UInt8)) : List UInt8 := xs.foldl sqStep []
theorem sqP_append (pre : List (List UInt8)) (x : List UInt8) : sqP (pre ++ [x]) = sqStep (sqP pre) x := by simp [sqP]

theorem sqP_length {m : Nat} (pre : List (Short m)) : (sqP (lists (shorts pre))).length ≤ pre.length * (m + 1) := by
  have gen : ∀ (l : List (Short m)) (acc : List UInt8), ((lists (shorts l)).foldl sqStep acc).length ≤ acc.length + l.length * (m + 1) := by
    intro l
    induction l with
    | nil => intro acc; simp [lists, shorts]
    | cons x l ih =>
      intro acc
      have h1 := ih (sqStep acc x.1.data.toList)
      have h2 : (sqStep acc x.1.data.toList).length ≤ acc.length + 1 + m := by
        have hx : x.1.data.toList.length ≤ m := x.2
        simp only [sqStep, List.length_append]
        split
        · simp only [List.length_append, List.length_cons, List.length_nil]; omega
        · omega
      simp only [lists, shorts, List.map_cons, List.foldl_cons, List.length_cons] at h1 ⊢
      rw [Nat.succ_mul]
      omega
  simpa [sqP] using gen pre []

/-- That a builder holds these bytes speaks of cells alone. -/
theorem builder_own {β : Type} (B b : Nat) (f : β → List Value) : Own (fun s W => Lib.IsBuilder 39 5 B b (f s) W) := by
  have one : ∀ p s X Y row, Lib.BuilderAt 39 5 B b p (f s) X → X.grownBy Y row → (∀ r, row = some r → ∃ o : Obj, X.heap[r]? = some o ∧ o.isCells = false) → Lib.BuilderAt 39 5 B b p (f s) Y := by
    rintro p s X Y row h hg hrow
    have hlt := h.lt
    obtain ⟨hB, v, hb, hown, hne⟩ := h
    refine ⟨hB, v, (hg.block b hlt (fun e => ?_)).trans hb, hown.kept hg ?_, hne⟩
    · obtain ⟨o, ho, hc⟩ := hrow b e.symm
      rw [hb] at ho; cases ho; cases hc
    · rcases hown.2 with ⟨rfl, _⟩ | ⟨g, cap, cur, rfl, _, hgb, _⟩
      · exact .inl rfl
      · refine .inr fun e' => ?_
        obtain ⟨o, ho, hc⟩ := hrow g (by simpa [Value.ownBlock] using e'.symm)
        rw [hgb] at ho; cases ho; cases hc
  rintro s X Y row (h | h) hg hrow
  · exact .inl (one _ _ _ _ _ h hg hrow)
  · exact .inr (one _ _ _ _ _ h hg hrow)

set_option maxRecDepth 100000 in
set_option maxHeartbeats 2000000 in
theorem Squeeze_any (s : ByteArray) (hs : s.size ≤ 1000000) (w : World) :
    Calls Try.prog 16 #[.string s] w fun e W' => e = .returned (.string ⟨(sqP (wordsP whiteB s.data.toList)).toArray⟩) ∧ Below w.heap.size w W' := by
  obtain ⟨F, hF⟩ : ∃ F : Fence, F = Fence.wide := ⟨_, rfl⟩
  have hro : F.round = none := by rw [hF]; rfl
  have h16 : F.fn 16 := by rw [hF]; trivial
  have h26 : F.fn 26 := by rw [hF]; trivial
  have h27 : F.fn 27 := by rw [hF]; trivial
  have h34 : F.fn 34 := by rw [hF]; trivial
  have h28 : F.fn 28 := by rw [hF]; trivial
  have h23 : F.fn 23 := by rw [hF]; trivial
  have h22 : F.fn 22 := by rw [hF]; trivial
  have h24 : F.fn 24 := by rw [hF]; trivial
  have hW : ∀ {m : Nat} {f : FuncId} {args : Array Value} {w : World} {R : Ending → World → Prop}, Calls Try.prog f args w R → CallsIn F m Try.prog f args w R := fun h => by rw [hF]; exact callsIn_wide.2 h
  suffices h : CallsIn F 5 Try.prog 16 #[.string s] w fun e W' => e = .returned (.string ⟨(sqP (wordsP whiteB s.data.toList)).toArray⟩) ∧ Below w.heap.size w W' by
    rw [hF] at h; exact callsIn_wide.1 h
  clear hF
  refine callsIn_of_wp_marks Try.func16 rfl h16 ?_ hro
  simp only [Try.ntmps16, List.size_toArray, List.length_cons, List.length_nil, Nat.reduceAdd, Nat.reduceSub, Array.replicate_succ, Array.replicate_zero, List.push_toArray, List.append_toArray, List.nil_append, List.cons_append]
  gi_wp2_with (gi_at_call 26; refine (words_in F (5 - 1) h26 hro _ _).mono ?_; rintro e w' ⟨rfl, rfl⟩)
  have bO : Lib.IsBuilder 39 5 w.heap.size w.heap.size (Lib.byteCells []) (w.alloc (.cells #[.pointer none, .slice none 0 0] 39)) := Lib.fresh_isBuilder 39 5 w
  have bN := Boxed.new (w.alloc (.cells #[.pointer none, .slice none 0 0] 39)) 9 (.string s)
  rw [World.size_alloc] at bN
  have hB0 : Below w.heap.size w ((w.alloc (.cells #[.pointer none, .slice none 0 0] 39)).alloc (.cells #[.string s] 9)) := ((Below.refl _ w).alloc (Nat.le_refl _) _).alloc (by simp) _
  have hOwn := builder_own (β := List (Short s.size)) w.heap.size w.heap.size (fun pre => Lib.byteCells (sqP (lists (shorts pre))))
  refine wpIn_rangeFunc_ownG hro (by omega) (gf := 34) (lb := #[.pointer (some ⟨w.heap.size + 1, 0, none⟩)]) rfl h34 (enters_of Try.func34 (by kernel_rfl) rfl)
    (words_stops2 F (5 - 1) h34 h27 hro (by omega) (w.heap.size + 1) s hs _ (by simp) bN.cell) keepCell_t (keepCell_b (by simp)) (Below.refl _ _) (fun _ => rfl)
    (fun pre W => (Lib.IsBuilder 39 5 w.heap.size w.heap.size (Lib.byteCells (sqP (lists (shorts pre)))) W ∧ Boxed W (w.heap.size + 1) 9 (.string s)) ∧ Below w.heap.size w W)
    (fun _ _ _ => False)
    (OwnFrom.and (OwnFrom.and (Own.from hOwn _) (Own.from (boxed_own (w.heap.size + 1) 9 fun _ => .string s) _)) (ownFrom_below (Nat.le_refl _) (by simp; omega)))
    (fun _ _ _ _ _ hs _ _ => hs)
    ⟨⟨hOwn.alloc (s := []) _ bO, bN⟩, hB0⟩
    (fun x => { tmps := #[.string s, undef, .string ⟨#[]⟩, .pointer (some ⟨w.heap.size, 0, none⟩), .string x.1, .string s, .func (.func 34) #[] #[.pointer (some ⟨w.heap.size + 1, 0, none⟩)], .string x.1, undef, undef, undef, undef, undef, undef], defers := [] }) ?assign ?body ?done ?stop
  case assign =>
    intro l x W K hK
    gi_wp2
    exact hK
  case body =>
    rintro l pre x W ⟨⟨hb, hbs⟩, hB⟩ hlt
    obtain ⟨acc, hacc⟩ : ∃ acc, sqP (lists (shorts pre)) = acc := ⟨_, rfl⟩
    have hal : acc.length ≤ 1000000 * 1000001 := by
      rw [← hacc]; exact Nat.le_trans (sqP_length pre) (Nat.mul_le_mul (by omega) (by omega))
    have hnext : sqP (lists (shorts (pre ++ [x]))) = sqStep acc x.1.data.toList := by
      rw [← hacc, ← sqP_append]; simp [lists, shorts]
    rw [hacc] at hb
    clear hacc
    have hxs : x.1.size ≤ 1000000 := Nat.le_trans x.2 hs
    have g28 : (F.inRound l).fn 28 := h28
    have g23 : (F.inRound l).fn 23 := h23
    have g22 : (F.inRound l).fn 22 := h22
    have hWs : w.heap.size ≤ W.heap.size := hB.size
    have hLen : CallsIn (F.inRound l) 2 Try.prog 28 #[.pointer (some ⟨w.heap.size, 0, none⟩)] W fun e w' => e = .returned (.int .i64 acc.length) ∧ w' = W := by
      have := (hW (m := 2) (Try.Builder_Len _ _ _ _ hb)).inRound l
      rwa [Lib.byteCells_length] at this
    by_cases h0 : 0 < acc.length
    · have hByte : CallsIn (F.inRound l) 2 Try.prog 23 _ W _ := (hW (m := 2) (WriteByte_any _ _ _ 32 _ hb (by rw [Lib.byteCells_length]; omega) hWs)).inRound l
      have hStr : ∀ w1, Lib.BuilderAt 39 5 w.heap.size w.heap.size (.pointer (some ⟨w.heap.size, 0, none⟩)) (Lib.byteCells acc ++ [.int .u8 32]) w1 → w.heap.size ≤ w1.heap.size → CallsIn (F.inRound l) 2 Try.prog 22 #[.pointer (some ⟨w.heap.size, 0, none⟩), .string x.1] w1 _ := fun w1 h1 hs1 =>
        (hW (m := 2) (WriteString_any _ _ _ x.1 _ (.inr h1) (by simp [Lib.byteCells_length]; omega) hs1)).inRound l
      gi_wp2_with (first
        | (gi_at_call 28; refine hLen.mono ?_; rintro e w' ⟨rfl, rfl⟩)
        | (gi_at_call 23; refine hByte.mono ?_; rintro e w1 ⟨rfl, hb1, hbl1, hk1, ho1⟩; have hs1 := Nat.le_trans hWs hbl1.size)
        | (gi_at_call 22; refine (hStr _ hb1 hs1).mono ?_; rintro e w2 ⟨rfl, hb2, hbl2, hk2, ho2⟩))
      have hbs2 : Boxed w2 (w.heap.size + 1) 9 (.string s) := (ho1.trans ho2) _ _ hbs (by simp) (by intro c fz e; cases e)
      exact ⟨(hk1.trans hk2).from _, Boxed.keepCell hbs hbs2, ⟨⟨by
        rw [hnext, sqStep, if_pos h0, Lib.byteCells_append, Lib.byteCells_append]; exact .inr hb2, hbs2⟩, (hB.trans hbl1).trans hbl2⟩⟩
    · have hStr : CallsIn (F.inRound l) 2 Try.prog 22 #[.pointer (some ⟨w.heap.size, 0, none⟩), .string x.1] W _ :=
        (hW (m := 2) (WriteString_any _ _ _ x.1 _ hb (by simp [Lib.byteCells_length]; omega) hWs)).inRound l
      gi_wp2_with (first
        | (gi_at_call 28; refine hLen.mono ?_; rintro e w' ⟨rfl, rfl⟩)
        | (gi_at_call 22; refine hStr.mono ?_; rintro e w2 ⟨rfl, hb2, hbl2, hk2, ho2⟩))
      have hbs2 : Boxed w2 (w.heap.size + 1) 9 (.string s) := ho2 _ _ hbs (by simp) (by intro c fz e; cases e)
      exact ⟨hk2.from _, Boxed.keepCell hbs hbs2, ⟨⟨by
        rw [hnext, sqStep, if_neg h0, Lib.byteCells_append]; exact .inr hb2, hbs2⟩, hB.trans hbl2⟩⟩
  case done =>
    rintro D ys W hD hys ⟨⟨hb, hbs⟩, hB⟩ hK
    have hlt : w.heap.size < W.heap.size := by have := hbs.lt; omega
    gi_wp2_with (gi_at_call 24; refine (hW (Try.Builder_String_any_k _ _ _ _ (Lib.IsBuilderF.of hb) hB.size)).mono ?_; rintro e w' ⟨rfl, hb', hbl, hok⟩)
    have hK' : w'.heap[D]? = some (.deferred (some [])) := hok _ _ hK (by simp at hD ⊢; omega) (by intro c fz e; cases e)
    refine ⟨by simp, .inl ⟨_, _, rfl, run_takeDeferred hK', ?_⟩⟩
    exact ⟨_, results_tmp rfl _ _ _, rfl, (hB.trans hbl).trans (belowK_b (w := w) (Nat.le_refl _) w' D _ _ (by simp at hD; omega) hK' rfl rfl)⟩
  case stop =>
    rintro D c pre W _ _ h _
    exact h.elim
end Go.Proofs.Ythnpedkinelemaa
