/- TextLines returns true for every input and leaves its arguments as they were. No conditions. -/
import Derived.Test.YthnpedkinelemaaRows
import Derived.Test.YthnpedkinelemaaTextLines
import Derived.Deep.Strs
import Derived.Test.YthnpedkinelemaaFrame
import Derived.Lib.SmallJoins
import Derived.ChangeMaps5
namespace Go.Proofs.Ythnpedkinelemaa.TextLines
open Go.ChangeShapes Go.WideShapes Go.ChangeAt Go.RowKit Go.Joins Go.Deep

theorem own : ownKnob Try.prog.godebug = none := by kernel_rfl
theorem laidOut : laidOutB Try.prog = true := by kernel_rfl
theorem cells9 : Try.prog.cellsOf 9 = 1 := by kernel_rfl
theorem read22 : Try.prog.readableRec 22 = true := by kernel_rfl
theorem row22 : 22 < Try.prog.types.size := of_decide_eq_true (by kernel_rfl)
theorem read9 : Try.prog.readableRec 9 = true := by kernel_rfl
theorem row9 : 9 < Try.prog.types.size := of_decide_eq_true (by kernel_rfl)

set_option maxRecDepth 100000 in
theorem lifted (os : Os) (started : os.Started) (H : Type) (enc : TypeId × Value → H) :
    ReturnsInHanded {} Try.checked os 3 .any (Rows.textLinesSpec.pre6 enc Try.prog Try.f3 Rows.textLinesRow.domain false) (Rows.textLinesSpec.post enc Try.prog Try.f3 false true false false) := by
  refine returnsInHanded_of_change (C := Try.checked) own started (by kernel_rfl) Try.func3
    (ChangeSpec.witness6 (enc := enc) (C := Try.checked) false ⟨#[], #[.slice none 0 0, .string ⟨#[]⟩], []⟩ 8 (by kernel_rfl) (by kernel_rfl) (by kernel_rfl) (by kernel_rfl)) ?_
  intro W base args ds gs before hval0 hW _ _
  have hval : ∀ (j : Nat) t v, Try.f3.params[j]? = some t → args[j]? = some v → Value.okWide Try.prog W .any base t v := hval0
  have hW' := hW
  obtain ⟨p, q, hA0, hV, rfl, hfz, hnd⟩ := hW
  have hA : DataW.TrodAll enc Try.prog W 0 (fun _ => true) true Try.f3.params.toList args.toList ds p := hA0
  rw [Try.params3] at hA hval
  obtain ⟨v0, vs0, d0, ds0, p0, q0, hargs, rfl, rfl, h0, r0⟩ := trodAll_cons hA
  obtain ⟨v1, vs1, d1, ds1, p1, q1, rfl, rfl, rfl, h1, r1⟩ := trodAll_cons r0
  obtain ⟨rfl, rfl, rfl⟩ := trodAll_nil r1
  obtain rfl : args = #[v0, v1] := by cases args; simp_all
  obtain ⟨rfl, rfl⟩ := trodVars_none hV
  obtain ⟨s, rfl, rfl, rfl, w1⟩ := Go.ChangeMaps.open_string Try.underlying9 (hval 1 9 v1 rfl rfl) h1
  obtain ⟨xs, hs, hl, hz⟩ : ∃ xs, Strs W W.heap.size v0 xs ∧ xs.length ≤ 9223372036854775807 ∧ ∀ j, j < xs.length → (nth xs j).size ≤ 9223372036854775807 := by
    obtain ⟨x, len, cap, rfl⟩ := okWide_slice Try.underlying22 (hval 0 22 v0 rfl rfl)
    obtain ⟨fuel, hf⟩ := h0
    rcases open_strs Try.underlying22 Try.underlying9 cells9 hf with ⟨hcs, _⟩ | ⟨a, len', cap', m, Sx, hcs, _, hl, hm, hmm, _, hcell⟩
    · simp [Value.cells] at hcs
      obtain ⟨rfl, rfl, rfl⟩ := hcs
      exact ⟨[], ⟨none, 0, rfl, fun j hj => by simp at hj⟩, by simp, fun j hj => by simp at hj⟩
    · simp [Value.cells] at hcs
      obtain ⟨rfl, rfl, rfl⟩ := hcs
      simp only [if_true] at hmm
      subst hmm
      have hn : ∀ j, j < len → nth ((List.range len).map Sx) j = Sx j := fun j hj => by
        rw [nth_lt _ _ (by simpa using hj)]; simp
      unfold maxLen at hm
      refine ⟨(List.range len).map Sx, ⟨some a, m, by simp, fun j hj => ?_⟩, by simp; omega, fun j hj => ?_⟩
      · have hj' : j < len := by simpa using hj
        obtain ⟨b, off, spot⟩ := a
        have h1 := (hcell j (by omega)).1
        have hspot : spot = none := by simpa [Addr.add] using World.cell?_spot (hcell 0 (by omega)).1
        subst hspot
        rw [Go.WideShapes.add_plain] at h1
        exact ⟨b, off, World.block_lt_of_cell? W _ h1, rfl, by rw [h1, hn j hj']⟩
      · have hj' : j < len := by simpa using hj
        rw [hn j hj']
        have := (hcell j (by omega)).2
        unfold maxLen at this; omega
  clear hA0 hval0
  refine (lines_any v0 xs s W hs hl hz).mono fun e W' ⟨he, hg⟩ => ?_
  subst he
  refine ⟨_, rfl, law_post (T := 4) laidOut ?_ rfl Try.underlying4 rfl rfl rfl rfl hW' hg⟩
  intro t ht
  rw [Try.params3] at ht
  simp only [List.mem_cons, List.not_mem_nil, or_false] at ht
  rcases ht with rfl | rfl
  · exact ⟨read22, row22⟩
  · exact ⟨read9, row9⟩

theorem lines_holds : Rows.TextLinesSaid :=
  OpenClaim.holds_of_wide 3 Try.f3 rfl rfl rfl rfl rfl rfl rfl ⟨rfl, rfl, rfl, rfl, rfl⟩ rfl rfl rfl rfl rfl (by kernel_rfl) Try.func3 (by kernel_rfl)
    (of_decide_eq_true (by kernel_rfl)) (by unfold Func.isWrapper; first | (rw [if_pos (by decide +kernel)]; kernel_rfl) | (rw [if_neg (by decide +kernel)]; exact ⟨rfl, rfl⟩))
    (fun os started H enc _ => lifted os started H enc)
#print axioms lines_holds
end Go.Proofs.Ythnpedkinelemaa.TextLines
