/- code.Check: its contract, whole. -/
import Derived.Test.YtfnekjeicdhihaaVmI
import Derived.Tactics2
namespace Go.Proofs.Ytfnekjeicdhihaa
open Go.SX

section
variable {ρ : Env} {W0 : World} {σ : Sig} {w : World}
theorem idS_env {θ : Sub} {iv : List (Nat × E)} (h : idS θ iv = true) : θ.env ρ = ⟨fun i => (lk iv i (.v i)).n ρ, ρ.av, ρ.ov⟩ := by
  simp only [idS, Bool.and_eq_true, List.all_eq_true, decide_eq_true_eq] at h
  obtain ⟨⟨⟨h1, h2⟩, h3⟩, h4⟩ := h
  have e1 : ∀ i, lk θ.iv i (.v i) = lk iv i (.v i) := fun i => by
    rcases lk_cases' θ.iv i (.v i) with e | ⟨p, hp, rfl, e⟩
    · rcases lk_cases' iv i (.v i) with e' | ⟨p, hp, rfl, e'⟩
      · rw [e, e']
      · rw [e']; exact h2 p hp
    · rw [e]; exact h1 p hp
  have e2 : ∀ i, lk θ.av i (.av i) = .av i := fun i => by
    rcases lk_cases' θ.av i (.av i) with e | ⟨p, hp, rfl, e⟩
    · exact e
    · rw [e]; exact h3 p hp
  simp only [Sub.env, e1, e2]; rfl
theorem tmK0_fr {x : Value} (hx : (V.agg [.int .i64 (.v 0), .ms 0 0 (.v 1)]).val ρ σ = some x) {a : Act} (ha : a.tmps = #[x] ++ Array.replicate 28 undef) : FR ρ σ tmK0 a := by
  refine ⟨by rw [ha]; simp [tmK0], fun i v hi => ?_⟩
  have h0 : a.tmps[0]? = some x := by rw [ha]; simp
  rcases i with _ | i
  · simp [tmK0] at hi; subst hi; rw [hx, h0]
  · have : (tmK0[i + 1]? : Option (Option V)) = (List.replicate 28 none)[i]? := rfl
    rw [this, List.getElem?_replicate] at hi
    split at hi <;> cases hi

/-- **The contract of code.Check.** -/
theorem chk_ok {x : Value} (hx : (V.agg [.int .i64 (.v 0), .ms 0 0 (.v 1)]).val ρ σ = some x) (g : Gam ρ w σ sK0 w) (hbig : ρ.iv 1 ≤ 1000000) :
    Calls Try.prog 15 #[x] w fun e w' => (∃ n, e = .returned (.int .i64 n) ∧ ChkR ρ n) ∧ Old w w' := by
  refine calls_of_wp Try.func15 chk_code ?_
  have hn : Try.f15.ntmps = 29 := rfl
  have hk := okC0_ok
  unfold okC0 at hk
  split at hk
  case h_2 => cases hk
  rename_i l hl
  rw [List.all_eq_true] at hk
  refine wp_seq (wp_mono (sx_ok (K := noK) noK_ok named_ok' mixed_ok' 200 chkR0 _ _ l hl ρ (fun s hs => by have := hk _ hs; simp at this) w σ _ _ g (tmK0_fr hx (by simp [hn]))) fun e a1 w1 hs => ?_)
  cases e with
  | goto l => obtain ⟨hd, tm, s, τ, hm, g2, f2⟩ := hs; have := hk _ hm; simp at this
  | exit l => obtain ⟨hd, tm, s, τ, hm, g2, f2⟩ := hs; have := hk _ hm; simp at this
  | ret => obtain ⟨hd, tm, s, τ, hm, g2, f2⟩ := hs; have := hk _ hm; simp at this
  | panic ch => obtain ⟨hd, v, s, τ, x, hm, g2⟩ := hs; have := hk _ hm; simp at this
  | outgrown => exact hs.elim
  | normal =>
  obtain ⟨hd1, tm, s, τ, hm, g1, f1⟩ := hs
  have := hk _ hm
  simp only at this
  split at this
  case h_2 => cases this
  rename_i θ hθ
  obtain ⟨g2, f2⟩ := mt_ok hθ g1 f1 (fun e he => nomatch he)
  have henv : θ.env ρ = ρ := by rw [idS_env this]; rfl
  rw [henv] at g2 f2
  clear hk hl hm this hθ g1 f1 hx g
  -- the scope
  refine wp_scope_jumps 0 (fun a w' => ∃ n, ChkR ρ n ∧ Jumps w n a w') (fun _ _ => 0) chk_label ?_ (fun a w' hJ => ?_)
  · have hk := okC1_ok
    unfold okC1 outC1 at hk
    split at hk
    case h_2 => cases hk
    rename_i l hl
    rw [List.all_eq_true] at hk
    simp only [sxs] at hl
    split at hl
    case h_2 => cases hl
    rename_i m hmX
    have hnb : NB ρ l := fun s hs => by have := hk _ hs; simp at this
    refine wp_seq (wp_mono (sx_ok (K := noK) noK_ok named_ok' mixed_ok' 200 chkX1 _ _ m hmX ρ (NB.of_bind hl hnb) w _ _ _ g2 f2) fun e a2 w2 hs => ?_)
    have jump : ∀ i a2 w2, SP ρ w (θ.sig (σ ++ τ)) a1.defers l (.goto i) a2 w2 → i = 0 ∧ ∃ n, ChkR ρ n ∧ Jumps w n a2 w2 := by
      intro i a2 w2 hs
      obtain ⟨hd, tm, s, τ', hm, g3, f3⟩ := hs
      have := hk _ hm
      simp only [Bool.and_eq_true, Bool.or_eq_true, decide_eq_true_eq] at this
      obtain ⟨⟨h1, h2⟩, h3⟩ := this
      obtain ⟨h4, h5⟩ := gto2_ok h2 h1 (hd.trans hd1) g3 f3
      refine ⟨h4, 2, .inl ⟨rfl, ?_⟩, h5⟩
      rcases h3 with h3 | h3
      · have := g3.pc _ h3
        simp only [E.n_bi, E.n_v, E.n_c, O.den] at this
        exact .inl (one_ne.1 this)
      · have := g3.pc _ h3
        simp only [E.n_bi, E.n_v, E.n_c, O.den] at this
        exact .inr (.inl (one_ne.1 this))
    cases e with
    | goto i => obtain ⟨hd, tm, s, τ', h1, h2⟩ := hs; exact jump i a2 w2 ⟨hd, tm, s, τ', bindO_other hl h1 rfl, h2⟩
    | exit i => obtain ⟨hd, tm, s, τ', h1, h2⟩ := hs; have := hk _ (bindO_other hl h1 rfl); simp at this
    | ret => obtain ⟨hd, tm, s, τ', h1, h2⟩ := hs; have := hk _ (bindO_other hl h1 rfl); simp at this
    | panic ch => obtain ⟨hd, v, s, τ', x, h1, h2⟩ := hs; have := hk _ (bindO_other hl h1 rfl); simp at this
    | outgrown => exact hs.elim
    | normal =>
    obtain ⟨hd2, tm2, s2, τ2, h1, g3, f3⟩ := hs
    obtain ⟨m2, h4, h5⟩ := bindO_nor hl h1
    split at h4
    case h_2 => cases h4
    rename_i m3 hm3
    refine wp_seq (wp_seq (wp_mono (sx_ok (K := noK) noK_ok named_ok' mixed_ok' 200 chkR3 _ _ m3 hm3 ρ (NB.of_bind h4 (hnb.sub h5)) w _ _ _ g3 f3) fun e a3 w3 hs => ?_))
    cases e with
    | goto i => obtain ⟨hd, tm, s, τ', h6, h7⟩ := hs; exact jump i a3 w3 (by rw [hd2] at hd; exact SP.more _ ⟨hd, tm, s, τ', h5 _ (bindO_other h4 h6 rfl), h7⟩)
    | exit i => obtain ⟨hd, tm, s, τ', h6, h7⟩ := hs; have := hk _ (h5 _ (bindO_other h4 h6 rfl)); simp at this
    | ret => obtain ⟨hd, tm, s, τ', h6, h7⟩ := hs; have := hk _ (h5 _ (bindO_other h4 h6 rfl)); simp at this
    | panic ch => obtain ⟨hd, v, s, τ', x, h6, h7⟩ := hs; have := hk _ (h5 _ (bindO_other h4 h6 rfl)); simp at this
    | outgrown => exact hs.elim
    | normal =>
    obtain ⟨hd3, tm3, s3, τ3, h6, g4, f4⟩ := hs
    obtain ⟨m4, h8, h9⟩ := bindO_nor h4 h6
    simp only [Option.some.injEq] at h8
    have hmem : Out.nor tm3 s3 ∈ l := h5 _ (h9 _ (by rw [← h8]; exact List.mem_singleton.2 rfl))
    have hck := hk _ hmem
    simp only [Bool.and_eq_true, decide_eq_true_eq] at hck
    obtain ⟨⟨hc1, hc2⟩, hc3⟩ := hck
    have hlo : 0 ≤ ρ.iv 0 := by
      have := g4.pc _ hc2
      simp only [E.n_bi, E.n_v, E.n_c, O.den] at this
      exact one_ne.1 this
    have hhi : ρ.iv 0 ≤ 256 := by
      have := g4.pc _ hc3
      simp only [E.n_bi, E.n_v, E.n_c, O.den] at this
      exact one_ne.1 this
    split at hc1
    case h_2 => cases hc1
    rename_i θ2 hθ2
    obtain ⟨g5, f5⟩ := mt_ok hθ2 g4 f4 (fun e he => nomatch he)
    have hnear : Near ρ (θ2.env ρ) 0 := by
      rw [idS_env hc1]
      refine ⟨fun i hi => ?_, rfl, rfl, rfl⟩
      show (lk [(36, E.c 0)] i (.v i)).n ρ = _
      have : lk [(36, E.c 0)] i (.v i) = .v i := by
        unfold lk
        simp [show ¬ (36 = i) by omega]
      rw [this]; rfl
    have hd3' : a3.defers = [] := by rw [hd3, hd2, hd1]
    refine wp_block (wp_loop_rounds (ρ.iv 1 - 0).toNat.succ (roundsK (ρ := ρ) hbig (fun hno a' w' hJ => ?_) (fun hall a' w' ρ'' σ' r hd' hn' g' f' => ?_) _ 0 _ _ a3 w3 (Nat.lt_succ_self _) (by omega) (by omega) (fun q h1 h2 => by omega) hd3' hnear g5 f5))
    · exact ⟨rfl, 2, .inl ⟨rfl, .inr (.inr hno)⟩, hJ⟩
    · simp only [Exit.inBlock, if_true, Exit.then]
      -- behind the loop
      have hk := okC3_ok
      unfold okC3 outC3 at hk
      split at hk
      case h_2 => cases hk
      rename_i l3 hl3
      rw [List.all_eq_true] at hk
      have hnb3 : NB ρ'' l3 := fun s hs => by have := hk _ hs; simp at this
      refine sxs_ok (K := noK) (noK_ok _) named_ok' mixed_ok' hl3 hnb3 g' f' fun e a4 w4 hs => ?_
      cases e with
      | normal => obtain ⟨hd, tm, s, τ', h6, h7⟩ := hs; have := hk _ h6; simp at this
      | exit i => obtain ⟨hd, tm, s, τ', h6, h7⟩ := hs; have := hk _ h6; simp at this
      | panic ch => obtain ⟨hd, v, s, τ', x, h6, h7⟩ := hs; have := hk _ h6; simp at this
      | outgrown => exact hs.elim
      | goto i =>
        obtain ⟨hd, tm, s, τ', h6, g6, f6⟩ := hs
        have := hk _ h6
        simp only [Bool.and_eq_true, decide_eq_true_eq] at this
        obtain ⟨⟨h1, h2⟩, h3⟩ := this
        obtain ⟨h4, h5⟩ := gto2_ok h2 h1 (hd.trans hd') g6 f6
        have h7 := g6.pc _ h3
        simp only [E.n_bi, E.n_v, E.n_c, O.den] at h7
        have h8 := one_ne.1 h7
        rw [hn'.iv 1 (by omega)] at h8
        exact ⟨h4, 3, .inr (.inl ⟨rfl, hlo, hhi, hall, h8⟩), h5⟩
      | ret =>
        obtain ⟨hd, tm, s, τ', h6, g6, f6⟩ := hs
        have := hk _ h6
        simp only [Bool.and_eq_true, decide_eq_true_eq] at this
        obtain ⟨⟨h1, h2⟩, h3⟩ := this
        have h7 := g6.pc _ h3
        simp only [E.n_bi, E.n_v, E.n_c, O.den] at h7
        have h8 := one_ne.1 h7
        rw [hn'.iv 1 (by omega)] at h8
        split at h2
        case h_2 => cases h2
        rename_i m5 hm5
        simp only [decide_eq_true_eq] at h2
        subst h2
        have h9 := f6.2 2 _ hm5
        have hold : Old w w4 := g6.old fun c hc ho => by
          simp only [freshS, List.all_eq_true, Bool.or_eq_true, Bool.not_eq_true'] at h1
          rcases h1 c hc with h1 | h1
          · rw [ho] at h1; cases h1
          · exact h1
        refine ⟨hd.trans hd', .int .i64 0, ?_, ⟨0, rfl, .inr (.inr ⟨rfl, hlo, hhi, hall, h8⟩)⟩, hold⟩
        have h10 : a4.tmps[2]? = some (.int .i64 0) := by rw [← h9]; rfl
        simp [results, Try.results15, h10]
  · -- the label
    obtain ⟨n, hc, hd, hsz, ht, hold⟩ := hJ
    refine wp_seq (wp_skip ?_)
    show chkZ'.wp _ _ _ _
    have hz : chkZ' = .seq (match chkZ' with | .seq x _ => x | _ => .skip) .ret := rfl
    rw [hz]
    have ht' : a.tmps[2]?.getD undef = .int .i64 n := by rw [ht]; rfl
    refine wp_seq (wp_region ?_)
    simp [wpOps, go_sem, Exit.then, ht, hsz]
    refine .inl (.inl (wp_ret ?_))
    refine ⟨hd, .int .i64 n, ?_, ⟨n, rfl, hc⟩, hold⟩
    simp [results, Try.results15, hsz]
    exact (Array.getElem?_eq_some_iff.1 ht).2
end
end Go.Proofs.Ytfnekjeicdhihaa
