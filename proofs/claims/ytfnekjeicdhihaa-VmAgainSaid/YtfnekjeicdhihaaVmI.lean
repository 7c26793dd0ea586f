/- code.Check: its contract. -/
import Derived.Test.YtfnekjeicdhihaaVmH
namespace Go.Proofs.Ytfnekjeicdhihaa
open Go.SX

theorem named_ok' : named Try.prog = true := by kernel_rfl
theorem mixed_ok' : Try.prog.follows .mixedOrders = true := by kernel_rfl
theorem wrap_in' {n : Int} (h : -9223372036854775808 ≤ n ∧ n ≤ 9223372036854775807) : IntKind.i64.wrap n = n := by
  rw [IntKind.wrap_i64]; omega

theorem lk_cases' {α : Type} (l : List (Nat × α)) (i : Nat) (d : α) : lk l i d = d ∨ ∃ p ∈ l, p.1 = i ∧ lk l i d = p.2 := by
  unfold lk; split
  · rename_i p hp
    have := List.find?_some hp
    exact .inr ⟨p, List.mem_of_find?_eq_some hp, eq_of_beq this, rfl⟩
  · exact .inl rfl
section
variable {ρ : Env} {W0 : World} {σ : Sig} {w : World}
/-- A jump to the end, with 'n' to tell. -/
def Jumps (W0 : World) (n : Int) (a : Act) (w : World) : Prop := a.defers = [] ∧ a.tmps.size = 29 ∧ a.tmps[2]? = some (.int .i64 n) ∧ Old W0 w
theorem gto2_ok {n : Int} {l : Nat} {tm : TM} {s : S} {a : Act} (h : gto2 n l tm = true) (hs : freshS s = true) (hd : a.defers = []) (g : Gam ρ W0 σ s w) (hf : FR ρ σ tm a) : l = 0 ∧ Jumps W0 n a w := by
  simp only [gto2, Bool.and_eq_true, beq_iff_eq] at h
  obtain ⟨⟨rfl, hlen⟩, h⟩ := h
  split at h
  · rename_i m hm
    simp only [decide_eq_true_eq] at h
    subst h
    have := hf.2 2 _ hm
    refine ⟨rfl, hd, by rw [← hf.1, hlen], by rw [← this]; rfl, g.old fun c hc ho => ?_⟩
    simp only [freshS, List.all_eq_true, Bool.or_eq_true, Bool.not_eq_true'] at hs
    rcases hs c hc with h1 | h1
    · rw [ho] at h1; cases h1
    · exact h1
  · cases h
theorem turnK {Q : Exit → Act → World → Prop} {a : Act} {r : Int} {ρ' : Env} (h0 : 0 ≤ r) (hlt : r < ρ.iv 1) (hbig : r ≤ 1000000) (hd0 : a.defers = []) (hn : Near ρ ρ' r) (g : Gam ρ' W0 σ (sK (.av 3) []) w) (hf : FR ρ' σ tmKL a)
    (hG : ¬ MayP ρ r → ∀ a' w', Jumps W0 2 a' w' → Q (.goto 0) a' w')
    (hN : MayP ρ r → ∀ a' w' ρ'' σ', a'.defers = [] → Near ρ ρ'' (r + 1) → Gam ρ'' W0 σ' (sK (.av 3) []) w' → FR ρ'' σ' tmKL a' → Q .normal a' w') : chkLoop.wp Try.prog Q a w := by
  have hpK := pcK_ok (ρ := ρ) h0 hlt
  have bad : ∀ (pc : List E), okBad (outK (.v 30) pc) = true → PC (atK ρ r) pc → ¬ MayP ρ r → chkLoop.wp Try.prog Q a w := by
    intro pc hk hpc hno
    unfold okBad at hk
    split at hk
    · rename_i l hl
      rw [List.all_eq_true] at hk
      have g1 := toK (ρ := ρ) (op := .v 30) (r := r) (pc := pc ++ pcK) rfl (fun e he => by
        rcases List.mem_append.1 he with he | he
        · exact hpc e he
        · exact hpK e he) hn g
      refine wp_mono (sx_ok (K := noK) noK_ok named_ok' mixed_ok' 200 chkLoop _ _ l hl _ (fun s hs => by have := hk _ hs; simp at this) W0 σ _ _ g1 (toKF hn hf)) fun e a' w' hs => ?_
      cases e with
      | goto i =>
        obtain ⟨hd, tm, s, τ, hm, g2, f2⟩ := hs
        have := hk _ hm
        simp only [Bool.and_eq_true, beq_iff_eq] at this
        obtain ⟨h2, h3⟩ := this
        obtain ⟨h5, h6⟩ := gto2_ok h3 h2 (hd.trans hd0) g2 f2
        rw [h5]
        exact hG hno a' w' h6
      | normal => obtain ⟨hd, tm, s, τ, hm, g2, f2⟩ := hs; have := hk _ hm; simp at this
      | exit l => obtain ⟨hd, tm, s, τ, hm, g2, f2⟩ := hs; have := hk _ hm; simp at this
      | ret => obtain ⟨hd, tm, s, τ, hm, g2, f2⟩ := hs; have := hk _ hm; simp at this
      | panic ch => obtain ⟨hd, v, s, τ, x, hm, g2⟩ := hs; have := hk _ hm; simp at this
      | outgrown => exact hs.elim
    · cases hk
  have e30 : (atK ρ r).iv 30 = ρ.av 3 r 0 := rfl
  by_cases hlo : ρ.av 3 r 0 < 1
  · refine bad _ okBad_lo (fun e he => ?_) (fun hm => by have := hm.1; omega)
    simp only [List.mem_cons, List.not_mem_nil, or_false] at he
    subst he
    simp only [E.n_bi, E.n_v, E.n_c, O.den]
    exact one_ne.2 (by rw [e30]; exact hlo)
  by_cases hhi : 24 < ρ.av 3 r 0
  · refine bad _ okBad_hi (fun e he => ?_) (fun hm => by have := hm.2.1; omega)
    simp only [List.mem_cons, List.not_mem_nil, or_false] at he
    rcases he with rfl | rfl
    · simp only [E.n_bi, E.n_v, E.n_c, O.den]
      exact one_ne.2 (by rw [e30]; exact hhi)
    · simp only [E.n_bi, E.n_v, E.n_c, O.den]
      exact one_ne.2 (by rw [e30]; omega)
  have hk := okK_all (op := ρ.av 3 r 0) (by omega) (by omega)
  unfold okK at hk
  split at hk
  · rename_i l hl
    rw [List.all_eq_true] at hk
    have g1 := toK (ρ := ρ) (op := .c (ρ.av 3 r 0)) (r := r) (pc := [] ++ pcK) rfl (by rw [List.nil_append]; exact hpK) hn g
    refine wp_mono (sx_ok (K := noK) noK_ok named_ok' mixed_ok' 200 chkLoop _ _ l hl _ (fun s hs => by have := hk _ hs; simp [okWay] at this) W0 σ _ _ g1 (toKF hn hf)) fun e a' w' hs => ?_
    cases e with
    | goto i =>
      obtain ⟨hd, tm, s, τ, hm, g2, f2⟩ := hs
      have := hk _ hm
      simp only [okWay, Bool.and_eq_true, beq_iff_eq] at this
      obtain ⟨⟨h2, h4⟩, h3⟩ := this
      obtain ⟨h5, h6⟩ := gto2_ok h4 h2 (hd.trans hd0) g2 f2
      rw [h5]
      refine hG (fun hmay => ?_) a' w' h6
      obtain ⟨c, hc, hc0⟩ := way_fails h3 g2.pc
      exact hmay.2.2 c hc hc0
    | normal =>
      obtain ⟨hd, tm, s, τ, hm, g2, f2⟩ := hs
      have := hk _ hm
      simp only [okWay, Bool.and_eq_true] at this
      obtain ⟨h1, h2⟩ := this
      split at h2
      · rename_i θ hθ
        simp only [Bool.and_eq_true, decide_eq_true_eq, List.all_eq_true] at h2
        obtain ⟨⟨⟨⟨h3, h4⟩, h5⟩, h6⟩, h7⟩ := h2
        obtain ⟨g3, f3⟩ := mt_ok hθ g2 f2 (fun e he => nomatch he)
        refine hN ⟨by omega, by omega, fun c hc => ?_⟩ a' w' _ _ (hd.trans hd0) ⟨?_, ?_, ?_, ?_⟩ g3 f3
        · simp only [List.all_eq_true, decide_eq_true_eq] at h1
          exact g2.pc c (h1 c hc)
        · intro i hi
          show (lk θ.iv i (.v i)).n (atK ρ r) = _
          have hl : lk θ.iv i (.v i) = .v i := by
            unfold lk; split
            · rename_i p hp
              have h8 : p.1 = i := by
                have h8 := List.find?_some hp
                exact eq_of_beq h8
              have h9 := h3 p (List.mem_of_find?_eq_some hp)
              rw [if_neg (by omega)] at h9
              rw [show p.2 = .v p.1 by simpa using h9, h8]
            · rfl
          rw [hl]
          show (atK ρ r).iv i = _
          simp only [atK]
          rw [if_neg (by omega), if_neg (by omega), if_neg (by omega), if_neg (by omega), if_neg (by omega), if_neg (by omega)]
        · funext i
          show (lk θ.av i (.av i)).a (atK ρ r) = _
          unfold lk; split
          · rename_i p hp
            have h8 : p.1 = i := by
              have h8 := List.find?_some hp
              exact eq_of_beq h8
            have h9 := h5 p (List.mem_of_find?_eq_some hp)
            rw [h9] at h8 ⊢
            simp only at h8 ⊢
            rw [← h8]
            exact insE_a rfl
          · rfl
        · rfl
        · show (lk θ.iv 36 (.v 36)).n (atK ρ r) = _
          have hl : lk θ.iv 36 (.v 36) = .un (.wrap .i64) (.bi .add (.v 36) (.c 1)) := by
            rcases lk_cases' θ.iv 36 (.v 36) with e | ⟨p, hp, h8, e⟩
            · exact absurd e h4
            · have h9 := h3 p hp
              rw [if_pos h8] at h9
              rw [e]; simpa using h9
          rw [hl]
          simp only [E.n_un, E.n_bi, E.n_v, E.n_c, U.den, O.den]
          have e36 : (atK ρ r).iv 36 = r := rfl
          rw [e36, wrap_in' (by omega)]
      · cases h2
    | exit l => obtain ⟨hd, tm, s, τ, hm, g2, f2⟩ := hs; have := hk _ hm; simp [okWay] at this
    | ret => obtain ⟨hd, tm, s, τ, hm, g2, f2⟩ := hs; have := hk _ hm; simp [okWay] at this
    | panic ch => obtain ⟨hd, v, s, τ, x, hm, g2⟩ := hs; have := hk _ hm; simp [okWay] at this
    | outgrown => exact hs.elim
  · cases hk

/-- **The loop.** -/
theorem roundsK {Q : Exit → Act → World → Prop} (hbig : ρ.iv 1 ≤ 1000000)
    (hG : ¬ AllP ρ → ∀ a' w', Jumps W0 2 a' w' → Q (.goto 0) a' w')
    (hX : AllP ρ → ∀ a' w' ρ'' σ' r, a'.defers = [] → Near ρ ρ'' r → Gam ρ'' W0 σ' (sK (.av 3) []) w' → FR ρ'' σ' tmKL a' → Q (.exit 0) a' w') :
    ∀ (n : Nat) (r : Int) (ρ' : Env) (σ : Sig) (a : Act) (w : World), (ρ.iv 1 - r).toNat < n → 0 ≤ r → r ≤ 1000000 → (∀ q, 0 ≤ q → q < r → MayP ρ q) → a.defers = [] → Near ρ ρ' r → Gam ρ' W0 σ (sK (.av 3) []) w → FR ρ' σ tmKL a →
      Code.rounds Try.prog chkLoop Q n a w
  | 0, r, ρ', σ, a, w, hn, _, _, _, _, _, _, _ => absurd hn (Nat.not_lt_zero _)
  | n + 1, r, ρ', σ, a, w, hn, h0, hr, hall, hd, hnear, g, hf => by
    rw [rounds_succ]
    by_cases hlt : r < ρ.iv 1
    · refine turnK h0 hlt hr hd hnear g hf (fun hno a' w' hJ => hG (fun hA => hno (hA r h0 hlt)) a' w' hJ) (fun hyes a' w' ρ'' σ' hd' hn' g' f' => ?_)
      refine roundsK hbig hG hX n (r + 1) ρ'' σ' a' w' (by omega) (by omega) (by omega) (fun q h1 h2 => ?_) hd' hn' g' f'
      by_cases hq : q < r
      · exact hall q h1 hq
      · rw [show q = r by omega]; exact hyes
    · exact okE_turn (by omega) hnear g hf fun a' w' ρ'' σ' hd' hn' g' f' => hX (fun q h1 h2 => hall q h1 (by omega)) a' w' ρ'' σ' r (hd'.trans hd) hn' g' f'
end
end Go.Proofs.Ytfnekjeicdhihaa
