/- What the calls of 'small' hand back. -/
import Derived.Test.YthnpedkinelemaaUnlines
import Derived.Test.YthnpedkinelemaaLines
import Derived.Test.YthnpedkinelemaaNumber
import Derived.Test.YthnpedkinelemaaGlob
namespace Go.Proofs.Ythnpedkinelemaa
open Go.RowKit Go.Shelf

theorem lists_inj : ∀ {xs ys : List ByteArray}, lists xs = lists ys → xs = ys
  | [], [], _ => rfl
  | [], _ :: _, h => by simp [lists] at h
  | _ :: _, [], h => by simp [lists] at h
  | x :: xs, y :: ys, h => by
    simp only [lists, List.map_cons, List.cons.injEq] at h
    rw [string_eq h.1, lists_inj (xs := xs) (ys := ys) h.2]

/-- The slice of a value that reads as a list. -/
theorem Lines_reads (s : ByteArray) (zs : List ByteArray) (w : World) (hs : s.size ≤ 1000000) (hz : linesP s.data.toList = lists zs) :
    Calls Try.prog 8 #[.string s] w fun e w' => ∃ v, e = .returned v ∧ Strs w' w'.heap.size v zs ∧ Below w.heap.size w w' := by
  refine (Lines_any s w hs).mono ?_
  rintro e w' ⟨v, ys, rfl, hys, hown, hb⟩
  obtain rfl : ys = zs := lists_inj (hys.trans hz)
  exact ⟨v, rfl, Strs.of_own hown, hb⟩

theorem small_lines (w : World) : Calls Try.prog 8 #[.string ⟨#[97, 13, 10, 10, 98]⟩] w fun e w' => ∃ g off cap, e = .returned (.slice (some ⟨g, off, none⟩) 3 cap) ∧
    g < w'.heap.size ∧ w'.cell? ⟨g, off, none⟩ = some (.string ⟨#[97]⟩) ∧ w'.cell? ⟨g, off + 1, none⟩ = some (.string ⟨#[]⟩) ∧ w'.cell? ⟨g, off + 2, none⟩ = some (.string ⟨#[98]⟩) ∧ Below w.heap.size w w' := by
  refine (Lines_reads _ [⟨#[97]⟩, ⟨#[]⟩, ⟨#[98]⟩] w (by decide) (by decide)).mono ?_
  rintro e w' ⟨v, rfl, ⟨x, cap, rfl, hc⟩, hb⟩
  obtain ⟨g, off, hg, rfl, h0⟩ := hc 0 (by decide)
  obtain ⟨_, _, _, e1, h1⟩ := hc 1 (by decide)
  cases e1
  obtain ⟨_, _, _, e2, h2⟩ := hc 2 (by decide)
  cases e2
  exact ⟨g, off, cap, rfl, hg, h0, h1, h2, hb⟩

theorem small_none (w : World) : Calls Try.prog 8 #[.string ⟨#[]⟩] w fun e w' => ∃ x cap, e = .returned (.slice x 0 cap) ∧ Below w.heap.size w w' := by
  refine (Lines_reads _ [] w (by decide) (by decide)).mono ?_
  rintro e w' ⟨v, rfl, ⟨x, cap, rfl, hc⟩, hb⟩
  exact ⟨x, cap, rfl, hb⟩

theorem small_lf (w : World) : Calls Try.prog 8 #[.string ⟨#[10]⟩] w fun e w' => ∃ x cap, e = .returned (.slice x 1 cap) ∧ Below w.heap.size w w' := by
  refine (Lines_reads _ [⟨#[]⟩] w (by decide) (by decide)).mono ?_
  rintro e w' ⟨v, rfl, ⟨x, cap, rfl, hc⟩, hb⟩
  exact ⟨x, cap, rfl, hb⟩

theorem small_squeeze (w : World) : Calls Try.prog 16 #[.string ⟨#[32, 97, 32, 9, 32, 98, 13, 10]⟩] w fun e w' => e = .returned (.string ⟨#[97, 32, 98]⟩) ∧ Below w.heap.size w w' := by
  refine (Squeeze_any _ (by decide) w).mono ?_
  rintro e w' ⟨rfl, hb⟩
  exact ⟨ret_string (by decide), hb⟩

theorem small_glob1 (w : World) : Calls Try.prog 11 #[.string ⟨#[42, 64, 42, 46, 69, 120, 97, 109, 112, 108, 101]⟩, .string ⟨#[120, 64, 108, 105, 115, 116, 115, 46, 101, 120, 97, 109, 112, 108, 101]⟩] w fun e w' => e = .returned (.bool true) ∧ Below w.heap.size w w' := by
  refine (Glob_any _ _ w (by decide) (by decide)).mono ?_
  rintro e w' ⟨rfl, hb⟩
  exact ⟨ret_bool (by decide +kernel), hb⟩

theorem small_glob2 (w : World) : Calls Try.prog 11 #[.string ⟨#[97, 63]⟩, .string ⟨#[97]⟩] w fun e w' => e = .returned (.bool false) ∧ Below w.heap.size w w' := by
  refine (Glob_any _ _ w (by decide) (by decide)).mono ?_
  rintro e w' ⟨rfl, hb⟩
  exact ⟨ret_bool (by decide +kernel), hb⟩

end Go.Proofs.Ythnpedkinelemaa
