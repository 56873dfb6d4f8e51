/- append of a whole slice of strings onto one that the call owns. -/
import Derived.Laws.AppendOwn
import Derived.Laws.AppendOwnNone
import Derived.BigFrame
import Derived.Test.YthnpedkinelemaaUnlines
namespace Go.Proofs.Ythnpedkinelemaa
open Go.RowKit

theorem app_strs {w : World} {ops : Array Oper} {rest : List Oper} {o : Oper} {a : Act} {Q : Exit → Act → World → Prop} (hw : Region.wanted o (yielded ops a.tmps) = true) (s x : Operand)
    (ho : o.op = .call { callee := .builtin .append, args := #[s, x], argTypes := #[22, 22] }) (B : Nat) (v : Value) (zs : List ByteArray) (hs : a.eval s = v) (hown : w.ownsRow B 9 1 v zs.length (strVals zs))
    (n₀ : Nat) (u : Value) (xs : List ByteArray) (hx : a.eval x = u) (hu : Strs w n₀ u xs) (hnil : ∀ k c, u = .slice none k c → c = 0) (hz : zs.length + xs.length ≤ 100000) (hB : B ≤ w.heap.size)
    (h : ∀ v' w', w'.ownsRow B 9 1 v' (zs ++ xs).length (strVals (zs ++ xs)) → w.grownBy w' v.ownBlock → wpList Try.prog ops Q rest (a.put o.dst v') w') : wpList Try.prog ops Q (o :: rest) a w := by
  obtain ⟨i0, hi, hz0, hz1, hz2⟩ := info_parts infoStr
  obtain ⟨x0, cap, rfl, hc⟩ := hu
  refine Go.BigFrame.wpList_want hw fun K hK => ?_
  cases x0 with
  | none =>
    have hcap := hnil _ _ rfl
    have hx0 : xs.length = 0 := by
      rcases Nat.eq_zero_or_pos xs.length with h0 | h0
      · exact h0
      · obtain ⟨_, _, _, e, _⟩ := hc 0 h0; cases e
    subst hcap
    rw [hx0] at hx
    have hrun := run_append_owned_none (P := Try.prog) (w := w) B 22 o.type 9 i0 1 Try.underlying22 hi v _ _ hown
    unfold Oper.wp
    simp [execOp, ho, resolve, invoke, builtin, hs, hx, hrun, Result.andThen]
    have hxe : xs = [] := List.length_eq_zero_iff.1 hx0
    subst hxe
    rw [List.append_nil] at h
    exact hK _ _ (h v w hown ⟨rfl, rfl, rfl, Nat.le_refl _, fun _ _ _ => rfl⟩)
  | some ad =>
    refine wp_append_own w s x 22 ho B 9 i0 (.string ByteArray.empty) 1 16 Try.underlying22 hi hz0 hz1 hz2 rfl (by decide) v _ _ hs hown ad xs.length cap (strVals xs) hx (by simp [strVals]) (fun j y hj => ?_) (fun y hy => ?_) (by unfold maxLen; omega) (by omega) hB fun v' w' h1 h2 _ => hK _ _ (h v' w' (by simpa [strVals] using h1) h2)
    · rw [strVals, List.getElem?_map] at hj
      have hjl : j < xs.length := by
        rcases Nat.lt_or_ge j xs.length with h | h
        · exact h
        · rw [List.getElem?_eq_none h] at hj; cases hj
      obtain ⟨b, off, _, e, hcj⟩ := hc j hjl
      cases e
      rw [List.getElem?_eq_getElem hjl, ← nth_lt _ _ hjl] at hj
      have e2 : y = .string (nth xs j) := by simpa using hj.symm
      have hadd : (⟨b, off, none⟩ : Addr).add j = ⟨b, off + j, none⟩ := by unfold Addr.add; split <;> simp_all
      rw [hadd, e2]; exact hcj
    · simp only [strVals, List.mem_map] at hy
      obtain ⟨_, _, rfl⟩ := hy; rfl
end Go.Proofs.Ythnpedkinelemaa
