/- The run of package vm: its loop, with what is deferred: the contract of 'goes'. -/
import Derived.Test.YtfnekjeicdhihaaVmD
import Derived.Defers
import Derived.Recover
import Derived.Tactics2
namespace Go.Proofs.Ytfnekjeicdhihaa
open Go.SX

/-! ### What is deferred -/
noncomputable def recB : Code := match Try.f23.body with
  | some (.seq _ c) => c
  | _ => .skip
def tmR (y : V) : TM := [some (.ptr 1 0 0 (.c 0)), none, none, none, some y] ++ List.replicate 11 none
def faulty (iv av : List (Nat × E)) : Bool := iv.all (fun p => if p.1 = 6 then decide (p.2 = .v 20) else decide (p.2 = .v p.1)) && decide (lk iv 6 (.v 6) = .v 20) && av.all (fun p => decide (p.2 = .av p.1))
def okRec (b : Bool) (o : Option (List Out)) : Bool := match o with
  | some l => l.all fun
    | .nor _ s => match mtb [] [] s with
      | some (b', θ) => b' == b && faulty θ.iv θ.av
      | none => false
    | _ => false
  | none => false
def okIdle (b : Bool) (o : Option (List Out)) : Bool := match o with
  | some l => l.all fun
    | .nor _ s => match mtb [] [] s with
      | some (b', θ) => b' == b && plain θ.iv θ.av
      | none => false
    | _ => false
  | none => false
theorem okRec_all (b : Bool) : okRec b (sx Try.prog noK 200 recB (tmR (.iface 75 (.agg [.int .i64 (.v 20)]))) (sT b (.av 3) [])) = true := by cases b <;> kernel_rfl
theorem okIdle_all (b : Bool) : okIdle b (sx Try.prog noK 200 recB (tmR .nili) (sT b (.av 3) [])) = true := by cases b <;> kernel_rfl

section
variable {ρ : Env} {W0 : World} {σ : Sig} {b : Bool} {w : World}
def with20 (n : Int) (ρ : Env) : Env := { ρ with iv := fun i => if i = 20 then n else ρ.iv i }
theorem faulty_env {n : Int} {iv av : List (Nat × E)} (h : faulty iv av = true) : envOf iv av (with20 n ρ) = fault n ρ := by
  simp only [faulty, Bool.and_eq_true, List.all_eq_true, decide_eq_true_eq] at h
  have h1 : ∀ i, lk iv i (.v i) = if i = 6 then .v 20 else .v i := fun i => by
    by_cases hi : i = 6
    · subst hi; simpa using h.1.2
    · rw [if_neg hi]
      rcases lk_cases iv i (.v i) with e | ⟨p, hp, rfl, e⟩
      · exact e
      · have h3 := h.1.1 p hp
        rw [if_neg hi] at h3
        rw [e]; simpa using h3
  have h2 : ∀ i, lk av i (.av i) = .av i := fun i => by
    rcases lk_cases av i (.av i) with e | ⟨p, hp, rfl, e⟩
    · exact e
    · rw [e]; exact h.2 p hp
  simp only [envOf, h1, h2, with20, fault]
  congr 1
  funext i
  by_cases h6 : i = 6
  · simp [h6, E.n_v]
  · simp only [h6, if_false, false_or, E.n_v]
theorem to20 (n : Int) (g : Gam ρ W0 σ (sT b (.av 3) []) w) : Gam (with20 n ρ) W0 σ (sT b (.av 3) []) w := by
  have := g.reenv (ρ' := with20 n ρ) (pc := []) id (fun c hc => by
    cases b
    · simp only [sT, tmplH, Bool.false_eq_true, if_false, List.append_nil, List.mem_cons, List.not_mem_nil, or_false] at hc
      rcases hc with rfl | rfl | rfl | rfl | rfl <;> rfl
    · simp only [sT, tmplH, if_true, List.cons_append, List.nil_append, List.mem_cons, List.not_mem_nil, or_false] at hc
      rcases hc with rfl | rfl | rfl | rfl | rfl | rfl <;> rfl) (fun e he => nomatch he)
  have he : (sT b (.av 3) []) = ⟨[], (sT b (.av 3) []).nx, (sT b (.av 3) []).H.map fun c => { c with segs := id c.segs }⟩ := by cases b <;> rfl
  rw [he]; exact this

theorem tmR_fr {y : V} {x yv : Value} (hx : (V.ptr 1 0 0 (.c 0)).val ρ σ = some x) (hy : y.val ρ σ = some yv) {a : Act} (ha : a.tmps = #[x] ++ (Array.replicate 15 undef).setIfInBounds 3 yv) : FR ρ σ (tmR y) a := by
  refine ⟨by rw [ha]; simp [tmR], fun i v hi => ?_⟩
  have h0 : a.tmps[0]? = some x := by rw [ha]; simp
  have h4 : a.tmps[4]? = some yv := by rw [ha]; simp [Array.getElem?_append]
  rcases i with _ | _ | _ | _ | _ | i
  · simp [tmR] at hi; subst hi; rw [hx, h0]
  · simp [tmR] at hi
  · simp [tmR] at hi
  · simp [tmR] at hi
  · simp [tmR] at hi; subst hi; rw [hy, h4]
  · have : ((tmR y)[i + 5]? : Option (Option V)) = (List.replicate 11 none)[i]? := rfl
    rw [this, List.getElem?_replicate] at hi
    split at hi <;> cases hi

theorem rec_pan {x : Value} (hx : (V.ptr 1 0 0 (.c 0)).val ρ σ = some x) (n : Int) (g : Gam ρ W0 σ (sT b (.av 3) []) w) :
    CallsD Try.prog 23 #[x] (.panicking [{ v := .iface 75 (.agg #[.int .i64 n]), recovered := false }]) w fun e u' w' =>
      (∃ v, e = .returned v) ∧ u' = .panicking [{ v := .iface 75 (.agg #[.int .i64 n]), recovered := true }] ∧ ∃ σ', Stay σ σ' ∧ Gam (fault n ρ) W0 σ' (sT b (.av 3) []) w' := by
  refine callsD_of_wpS Try.func23 rfl fun c₀ cs hu => ?_
  apply wpS_seq
  apply wpS_region
  simp [wpOpsS, go_sem, recoverD, hu, Try.ntmps23, Exit.thenS]
  have hk := okRec_all b
  unfold okRec at hk
  split at hk
  · rename_i l hl
    rw [List.all_eq_true] at hk
    refine wpS_of_wp (wp_mono (sx_ok (K := noK) noK_ok named_ok mixed_ok 200 recB _ _ l hl (with20 n ρ) (fun s hs => by have := hk _ hs; simp at this) W0 σ _ _ (to20 n g) (tmR_fr (ρ := with20 n ρ) (yv := .iface 75 (.agg #[.int .i64 n])) hx rfl rfl)) fun e a' w' hs => ?_)
    cases e with
    | normal =>
      obtain ⟨hd, tm, s, τ, hm, g2, f2⟩ := hs
      have := hk _ hm
      simp only at this
      split at this
      · rename_i b' θ hθ
        simp only [Bool.and_eq_true, beq_iff_eq] at this
        obtain ⟨rfl, hf⟩ := this
        obtain ⟨g3, st3⟩ := mtb_gam hθ g2
        dsimp only at g3
        rw [faulty_env hf] at g3
        refine ⟨hd, _, rfl, .tuple #[], ?_, ⟨_, rfl⟩, rfl, _, (stay_more _ (by rw [g.len]; simp [sT])).trans st3, g3⟩
        simp [results, Try.results23]
      · cases this
    | exit id => obtain ⟨hd, tm, s, τ, hm, g2, f2⟩ := hs; have := hk _ hm; simp at this
    | goto l => obtain ⟨hd, tm, s, τ, hm, g2, f2⟩ := hs; have := hk _ hm; simp at this
    | ret => obtain ⟨hd, tm, s, τ, hm, g2, f2⟩ := hs; have := hk _ hm; simp at this
    | panic ch => obtain ⟨hd, v, s, τ, x, hm, g2⟩ := hs; have := hk _ hm; simp at this
    | outgrown => exact hs.elim
  · cases hk

theorem rec_idle {x : Value} (hx : (V.ptr 1 0 0 (.c 0)).val ρ σ = some x) (g : Gam ρ W0 σ (sT b (.av 3) []) w) :
    CallsD Try.prog 23 #[x] .returning w fun e u' w' => (∃ v, e = .returned v) ∧ u' = .returning ∧ ∃ σ', Stay σ σ' ∧ Gam ρ W0 σ' (sT b (.av 3) []) w' := by
  refine callsD_of_wpS Try.func23 rfl fun c₀ cs hu => ?_
  apply wpS_seq
  apply wpS_region
  simp [wpOpsS, go_sem, recoverD, hu, Try.ntmps23, Exit.thenS]
  have hk := okIdle_all b
  unfold okIdle at hk
  split at hk
  · rename_i l hl
    rw [List.all_eq_true] at hk
    refine wpS_of_wp (wp_mono (sx_ok (K := noK) noK_ok named_ok mixed_ok 200 recB _ _ l hl ρ (fun s hs => by have := hk _ hs; simp at this) W0 σ _ _ g (tmR_fr (yv := .nilIface) hx rfl rfl)) fun e a' w' hs => ?_)
    cases e with
    | normal =>
      obtain ⟨hd, tm, s, τ, hm, g2, f2⟩ := hs
      have := hk _ hm
      simp only at this
      split at this
      · rename_i b' θ hθ
        simp only [Bool.and_eq_true, beq_iff_eq] at this
        obtain ⟨rfl, hf⟩ := this
        obtain ⟨g3, st3⟩ := mtb_gam hθ g2
        dsimp only at g3
        rw [plain_env hf] at g3
        refine ⟨hd, .returning, by rw [← hu], .tuple #[], ?_, ⟨_, rfl⟩, rfl, _, (stay_more _ (by rw [g.len]; simp [sT])).trans st3, g3⟩
        simp [results, Try.results23]
      · cases this
    | exit id => obtain ⟨hd, tm, s, τ, hm, g2, f2⟩ := hs; have := hk _ hm; simp at this
    | goto l => obtain ⟨hd, tm, s, τ, hm, g2, f2⟩ := hs; have := hk _ hm; simp at this
    | ret => obtain ⟨hd, tm, s, τ, hm, g2, f2⟩ := hs; have := hk _ hm; simp at this
    | panic ch => obtain ⟨hd, v, s, τ, x, hm, g2⟩ := hs; have := hk _ hm; simp at this
    | outgrown => exact hs.elim
  · cases hk
end
end Go.Proofs.Ytfnekjeicdhihaa
