/- The plain arithmetic of a bucket: its level at a time. No program here. -/
namespace Go.Proofs.Ytepjjfaakloedaa

/-- The nearest time. -/
def mom (t : Int) : Int := max 0 (min t 70368744177664)
/-- The limit. -/
def lim (p : Int) : Int := min p 1000000
/-- What lies in the bucket when it was last used. -/
def units (milli bu : Int) : Int := max 0 (min milli (bu * 3600000))
/-- The time that has passed. -/
def passed (now at_ : Int) : Int := max 0 (mom now - mom at_)
/-- The level of a bucket. -/
def lev (milli at_ ph bu now : Int) : Int :=
  if (bu * 3600000 - units milli bu) / ph < passed now at_ then bu * 3600000 else units milli bu + ph * passed now at_

theorem mom_bd (t : Int) : 0 ≤ mom t ∧ mom t ≤ 70368744177664 := by unfold mom; omega
theorem units_bd (m bu : Int) (hb : 1 ≤ bu) : 0 ≤ units m bu ∧ units m bu ≤ bu * 3600000 := by unfold units; omega
theorem passed_bd (now at_ : Int) : 0 ≤ passed now at_ ∧ passed now at_ ≤ 70368744177664 := by
  have := mom_bd now; have := mom_bd at_; unfold passed; omega

theorem div_lt_iff (a p d : Int) (hp : 1 ≤ p) : a / p < d ↔ a < p * d := by
  rw [Int.ediv_lt_iff_lt_mul (by omega), Int.mul_comm]

/-- The level, calculated exactly: the smaller one of the volume and what has flowed in. -/
theorem lev_eq (milli at_ ph bu now : Int) (hp : 1 ≤ ph) :
    lev milli at_ ph bu now = min (bu * 3600000) (units milli bu + ph * passed now at_) := by
  unfold lev
  have h := div_lt_iff (bu * 3600000 - units milli bu) ph (passed now at_) hp
  by_cases c : (bu * 3600000 - units milli bu) / ph < passed now at_
  · rw [if_pos c]; have := h.1 c; omega
  · rw [if_neg c]
    have : ¬ (bu * 3600000 - units milli bu) < ph * passed now at_ := fun x => c (h.2 x)
    omega

theorem lev_bd (milli at_ ph bu now : Int) (hp : 1 ≤ ph) (hb : 1 ≤ bu) : 0 ≤ lev milli at_ ph bu now ∧ lev milli at_ ph bu now ≤ bu * 3600000 := by
  rw [lev_eq _ _ _ _ _ hp]
  have h1 := units_bd milli bu hb
  have h2 : 0 ≤ ph * passed now at_ := Int.mul_nonneg (by omega) (passed_bd now at_).1
  omega

end Go.Proofs.Ytepjjfaakloedaa
