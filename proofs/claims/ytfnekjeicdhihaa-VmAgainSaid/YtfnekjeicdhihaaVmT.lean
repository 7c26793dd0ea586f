/- SameRan: two alike: true. -/
import Derived.Test.YtfnekjeicdhihaaVmS
namespace Go.Proofs.Ytfnekjeicdhihaa
open Go.SX

noncomputable def srX0 : Code := match Try.f7.body with
  | some (.seq a _) => a
  | _ => .skip
noncomputable def srX1 : Code := match Try.f7.body with
  | some (.seq _ (.seq b _)) => b
  | _ => .skip
noncomputable def srZ : Code := match Try.f7.body with
  | some (.seq _ (.seq _ (.seq _ (.seq z _)))) => z
  | _ => .skip
theorem sr_code : Try.f7.body = some (.seq srX0 (.seq srX1 (.seq (.seq srX3 (.block 0 (.loop srLoop))) (.seq srZ .ret)))) := rfl
theorem srHead_eq : srHead = [srX0, srX1] := rfl
section
variable {ρ : Env} {σ : Sig} {w0 w : World}
def nextS (ρ : Env) (r : Int) : Env := { ρ with iv := fun i => if i = 72 then r else ρ.iv i }
theorem nextS_two (ρ : Env) (r q : Int) : nextS (nextS ρ r) q = nextS ρ q := by
  have : (fun i => if i = 72 then q else (nextS ρ r).iv i) = fun i => if i = 72 then q else ρ.iv i := by
    funext i
    by_cases hi : i = 72
    · rw [if_pos hi, if_pos hi]
    · rw [if_neg hi, if_neg hi]; show (if i = 72 then r else ρ.iv i) = _; rw [if_neg hi]
  show Env.mk _ _ _ = Env.mk _ _ _
  rw [this]; rfl
theorem idS_next {θ : Sub} {e : E} (h : idS θ [(72, e)] = true) : θ.env ρ = nextS ρ (e.n ρ) := by
  rw [idS_env h]
  unfold nextS
  congr 1
  funext i
  by_cases hi : i = 72
  · subst hi; rfl
  · rw [if_neg hi]
    have : lk [(72, e)] i (.v i) = .v i := by unfold lk; simp [show ¬ (72 = i) by omega]
    rw [this]; rfl
theorem roundsS {Q : Exit → Act → World → Prop} (h69 : 0 ≤ ρ.iv 69) (hbig : ρ.iv 69 ≤ 1000000) (hX : ∀ r a w σ, a.defers = [] → Gam (nextS ρ r) w0 σ (sS []) w → FR (nextS ρ r) σ tmSL a → Q (.exit 0) a w) :
    ∀ (n : Nat) (r : Int) (σ : Sig) (a : Act) (w : World), (ρ.iv 69 - r).toNat < n → 0 ≤ r → r ≤ 1000000 → a.defers = [] → Gam (nextS ρ r) w0 σ (sS []) w → FR (nextS ρ r) σ tmSL a → Code.rounds Try.prog srLoop Q n a w
  | 0, r, σ, a, w, hn, _, _, _, _, _ => absurd hn (Nat.not_lt_zero _)
  | n + 1, r, σ, a, w, hn, h0, hr, hd, g, hf => by
    rw [rounds_succ]
    have hk := okSL_ok
    unfold okSL at hk
    split at hk
    case h_2 => cases hk
    rename_i l hl
    rw [List.all_eq_true] at hk
    have e72 : (nextS ρ r).iv 72 = r := rfl
    have e69 : (nextS ρ r).iv 69 = ρ.iv 69 := rfl
    have g1 : Gam (nextS ρ r) w0 σ (sS [.bi .le (.c 0) (.v 69), .bi .le (.c 0) (.v 72)]) w := g.withPc (fun e he => by
      simp only [List.mem_cons, List.not_mem_nil, or_false] at he
      rcases he with rfl | rfl
      · simp only [E.n_bi, E.n_v, E.n_c, O.den]; exact one_ne.2 h69
      · simp only [E.n_bi, E.n_v, E.n_c, O.den]; exact one_ne.2 h0)
    refine wp_mono (sx_ok (K := noK) noK_ok named_ok' mixed_ok' 200 srLoop _ _ l hl _ (fun s hs => by have := hk _ hs; simp at this) w0 σ _ _ g1 hf) fun e a' w' hs => ?_
    cases e with
    | normal =>
      obtain ⟨hd', tm, s, τ, hm, g2, f2⟩ := hs
      have := hk _ hm
      simp only [Bool.and_eq_true, decide_eq_true_eq] at this
      obtain ⟨h1, h2⟩ := this
      have hlt := g2.pc _ h2
      simp only [E.n_bi, E.n_v, O.den] at hlt
      have hlt := one_ne.1 hlt
      rw [e72, e69] at hlt
      split at h1
      case h_2 => cases h1
      rename_i θ hθ
      obtain ⟨g3, f3⟩ := mt_ok hθ g2 f2 (fun e he => nomatch he)
      have henv : θ.env (nextS ρ r) = nextS ρ (r + 1) := by
        rw [idS_next h1]
        have hw : E.n (nextS ρ r) (.un (.wrap .i64) (.bi .add (.v 72) (.c 1))) = r + 1 := by
          show IntKind.i64.wrap (r + 1) = r + 1
          exact wrap_in' (by omega)
        rw [hw]
        exact nextS_two _ _ _
      rw [henv] at g3 f3
      exact roundsS h69 hbig hX n (r + 1) _ a' w' (by omega) (by omega) (by omega) (hd'.trans hd) g3 f3
    | exit i =>
      obtain ⟨hd', tm, s, τ, hm, g2, f2⟩ := hs
      have := hk _ hm
      simp only [Bool.and_eq_true, beq_iff_eq] at this
      obtain ⟨rfl, h1⟩ := this
      split at h1
      case h_2 => cases h1
      rename_i θ hθ
      obtain ⟨g3, f3⟩ := mt_ok hθ g2 f2 (fun e he => nomatch he)
      have henv : θ.env (nextS ρ r) = nextS ρ r := by rw [idS_env h1]; rfl
      rw [henv] at g3 f3
      exact hX r a' w' _ (hd'.trans hd) g3 f3
    | goto l => obtain ⟨hd, tm, s, τ, hm, g2, f2⟩ := hs; have := hk _ hm; simp at this
    | ret => obtain ⟨hd, tm, s, τ, hm, g2, f2⟩ := hs; have := hk _ hm; simp at this
    | panic ch => obtain ⟨hd, v, s, τ, x, hm, g2⟩ := hs; have := hk _ hm; simp at this
    | outgrown => exact hs.elim
end
end Go.Proofs.Ytfnekjeicdhihaa
