/- What Check lets through may be run. -/
import Derived.Test.YtfnekjeicdhihaaVmQ
namespace Go.Proofs.Ytfnekjeicdhihaa
open Go.SX

theorem okIns_of {ρ : Env} {r : Int} (h : MayP ρ r) (h4 : 0 ≤ ρ.av 3 r 4) : OkIns (ρ.av 3 r) := by
  obtain ⟨h1, h2, h3⟩ := h
  have v31 : (atK ρ r).iv 31 = ρ.av 3 r 1 := rfl
  have v32 : (atK ρ r).iv 32 = ρ.av 3 r 2 := rfl
  have v33 : (atK ρ r).iv 33 = ρ.av 3 r 3 := rfl
  have key : (0 ≤ ρ.av 3 r 1 ∧ ρ.av 3 r 1 < 10) ∧ (0 ≤ ρ.av 3 r 2 ∧ ρ.av 3 r 2 < 10) ∧ (-32768 ≤ ρ.av 3 r 3 ∧ ρ.av 3 r 3 ≤ 32767) ∧ (19 ≤ ρ.av 3 r 0 → 0 ≤ ρ.av 3 r 3) := by
    simp only [conj] at h3
    refine ⟨?_, ?_, ?_, ?_⟩
    · by_cases hu : usesDst (ρ.av 3 r 0) = true
      · have a := h3 (.bi .le (.c 0) (.v 31)) (by simp [hu])
        have b := h3 (.bi .le (.v 31) (.c 9)) (by simp [hu])
        simp only [E.n_bi, E.n_v, E.n_c, O.den, v31] at a b
        have a := one_ne.1 a
        have b := one_ne.1 b
        omega
      · have a := h3 (.bi .eq (.v 31) (.c 0)) (by simp [hu])
        simp only [E.n_bi, E.n_v, E.n_c, O.den, v31] at a
        have a := one_ne.1 a
        omega
    · by_cases hu : usesSrc (ρ.av 3 r 0) = true
      · have a := h3 (.bi .le (.c 0) (.v 32)) (by simp [hu])
        have b := h3 (.bi .le (.v 32) (.c 9)) (by simp [hu])
        simp only [E.n_bi, E.n_v, E.n_c, O.den, v32] at a b
        have a := one_ne.1 a
        have b := one_ne.1 b
        omega
      · have a := h3 (.bi .eq (.v 32) (.c 0)) (by simp [hu])
        simp only [E.n_bi, E.n_v, E.n_c, O.den, v32] at a
        have a := one_ne.1 a
        omega
    all_goals
      by_cases hu : usesOff (ρ.av 3 r 0) = true
      · by_cases h19 : 19 ≤ ρ.av 3 r 0
        · have a := h3 (.bi .le (.c 0) (.v 33)) (by simp [hu, h19])
          have b := h3 (.bi .le (.v 33) (.c 255)) (by simp [hu, h19])
          simp only [E.n_bi, E.n_v, E.n_c, O.den, v33] at a b
          have a := one_ne.1 a
          have b := one_ne.1 b
          omega
        · have a := h3 (.bi .le (.c (-32768)) (.v 33)) (by simp [hu, h19])
          have b := h3 (.bi .le (.v 33) (.c 32767)) (by simp [hu, h19])
          simp only [E.n_bi, E.n_v, E.n_c, O.den, v33] at a b
          have a := one_ne.1 a
          have b := one_ne.1 b
          omega
      · have a := h3 (.bi .eq (.v 33) (.c 0)) (by simp [hu])
        simp only [E.n_bi, E.n_v, E.n_c, O.den, v33] at a
        have a := one_ne.1 a
        omega
  exact ⟨⟨h1, h2⟩, key.1, key.2.1, key.2.2.1, h4, fun h _ => key.2.2.2 h⟩
theorem inv_of {ρ : Env} (h : ChkR ρ 0) (h4 : ∀ r, 0 ≤ r → r < ρ.iv 1 → 0 ≤ ρ.av 3 r 4) (x y : Value) (n : Int) : Inv false (start (rgEnv ρ x y n)) := by
  rcases h with ⟨h, _⟩ | ⟨h, _⟩ | ⟨_, h0, h1, hall, hlen⟩
  · cases h
  · cases h
  · exact ⟨Int.le_refl 0, by show (0 : Int) ≤ 40000; omega, by show ρ.iv 1 ≤ 300; omega, Int.le_refl 0, Int.le_refl 0, fun _ => rfl, fun r h5 h6 => (okIns_of (ρ := ρ) (hall r h5 h6) (h4 r h5 h6) : OkIns (ρ.av 3 r))⟩
end Go.Proofs.Ytfnekjeicdhihaa
