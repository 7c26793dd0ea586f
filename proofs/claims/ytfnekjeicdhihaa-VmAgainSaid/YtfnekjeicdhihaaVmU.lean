/- SameRan: two alike: true: the contract. -/
import Derived.Test.YtfnekjeicdhihaaVmT
namespace Go.Proofs.Ytfnekjeicdhihaa
open Go.SX

section
variable {ρ : Env} {σ : Sig} {w : World}
theorem srZ_wp {Q : Exit → Act → World → Prop} {a : Act} (h : Q .normal { a with tmps := a.tmps.setIfInBounds 4 (.bool true) } w) : srZ.wp Try.prog Q a w := by
  refine wp_region ?_
  simp [wpOps, go_sem]
  exact .inl h
theorem sr_ok {x y : Value} (hx : (ranV (srV 0 2)).val ρ σ = some x) (hy : (ranV (srV 1 3)).val ρ σ = some y) (g : Gam ρ w σ sS0 w) (hbig : ρ.iv 69 ≤ 1000000) :
    Calls Try.prog 7 #[x, y] w fun e w' => e = .returned (.bool true) ∧ Old w w' := by
  have h69 : 0 ≤ ρ.iv 69 := by
    have := g.pc (.bi .le (.c 0) (.v 69)) (List.mem_singleton.2 rfl)
    simp only [E.n_bi, E.n_v, E.n_c, O.den] at this
    exact one_ne.1 this
  refine calls_of_wp Try.func7 sr_code ?_
  have hn : Try.f7.ntmps = 66 := rfl
  have hfr : FR ρ σ tmS0 { tmps := #[x, y] ++ Array.replicate (Try.f7.ntmps - #[x, y].size) undef, defers := [] } := by
    refine ⟨by simp [hn, tmS0], fun i v hi => ?_⟩
    rcases i with _ | _ | i
    · simp [tmS0] at hi; subst hi; rw [hx]; simp
    · simp [tmS0] at hi; subst hi; rw [hy]; simp
    · have : (tmS0[i + 2]? : Option (Option V)) = (List.replicate 64 none)[i]? := rfl
      rw [this, List.getElem?_replicate] at hi
      split at hi <;> cases hi
  have hk := okS1_ok
  unfold okS1 at hk
  split at hk
  case h_2 => cases hk
  rename_i l hl
  rw [List.all_eq_true] at hk
  have hnb : NB ρ l := fun s hs => by have := hk _ hs; simp at this
  refine sxs_ok (K := noK) (noK_ok ρ) named_ok' mixed_ok' (cs := srHead) hl hnb g hfr fun e a1 w1 hs => ?_
  cases e with
  | goto l => obtain ⟨hd, tm, s, τ, hm, g2, f2⟩ := hs; have := hk _ hm; simp at this
  | exit l => obtain ⟨hd, tm, s, τ, hm, g2, f2⟩ := hs; have := hk _ hm; simp at this
  | ret => obtain ⟨hd, tm, s, τ, hm, g2, f2⟩ := hs; have := hk _ hm; simp at this
  | panic ch => obtain ⟨hd, v, s, τ, x, hm, g2⟩ := hs; have := hk _ hm; simp at this
  | outgrown => exact hs.elim
  | normal =>
  obtain ⟨hd1, tm, s, τ, hm, g1, f1⟩ := hs
  have := hk _ hm
  simp only at this
  split at this
  case h_2 => cases this
  rename_i θ hθ
  obtain ⟨g2, f2⟩ := mt_ok hθ g1 f1 (fun e he => nomatch he)
  have henv : θ.env ρ = ρ := by rw [idS_env this]; rfl
  rw [henv] at g2 f2
  have hk := okS0_ok
  unfold okS0 at hk
  split at hk
  case h_2 => cases hk
  rename_i l2 hl2
  rw [List.all_eq_true] at hk
  refine wp_seq (wp_seq (wp_mono (sx_ok (K := noK) noK_ok named_ok' mixed_ok' 200 srX3 _ _ l2 hl2 ρ (fun s hs => by have := hk _ hs; simp at this) w _ _ _ g2 f2) fun e a2 w2 hs => ?_))
  cases e with
  | goto l => obtain ⟨hd, tm, s, τ, hm, g2, f2⟩ := hs; have := hk _ hm; simp at this
  | exit l => obtain ⟨hd, tm, s, τ, hm, g2, f2⟩ := hs; have := hk _ hm; simp at this
  | ret => obtain ⟨hd, tm, s, τ, hm, g2, f2⟩ := hs; have := hk _ hm; simp at this
  | panic ch => obtain ⟨hd, v, s, τ, x, hm, g2⟩ := hs; have := hk _ hm; simp at this
  | outgrown => exact hs.elim
  | normal =>
  obtain ⟨hd2, tm2, s2, τ2, hm2, g3, f3⟩ := hs
  have := hk _ hm2
  simp only at this
  split at this
  case h_2 => cases this
  rename_i θ2 hθ2
  obtain ⟨g4, f4⟩ := mt_ok hθ2 g3 f3 (fun e he => nomatch he)
  have henv2 : θ2.env ρ = nextS ρ 0 := idS_next this
  rw [henv2] at g4 f4
  refine wp_block (wp_loop_rounds (ρ.iv 69 - 0).toNat.succ (roundsS h69 hbig (fun r a w' σ' hd g5 f5 => ?_) _ 0 _ a2 w2 (Nat.lt_succ_self _) (by omega) (by omega) (hd2.trans hd1) g4 f4))
  simp only [Exit.inBlock, if_true, Exit.then]
  refine wp_seq (srZ_wp (wp_ret ?_))
  have hsz : a.tmps.size = 66 := by rw [← f5.1]; rfl
  have hold : Old w w' := g5.old fun c hc ho => by
    simp only [sS, srC, List.mem_cons, List.not_mem_nil, or_false] at hc
    rcases hc with rfl | rfl | rfl | rfl <;> simp_all
  refine ⟨hd, .bool true, ?_, rfl, hold⟩
  simp [results, Try.results7, hsz]
end
end Go.Proofs.Ytfnekjeicdhihaa
