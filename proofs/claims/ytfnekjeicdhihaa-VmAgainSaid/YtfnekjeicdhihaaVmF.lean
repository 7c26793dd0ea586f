/- The run of package vm: the contract of 'goes'. -/
import Derived.Test.YtfnekjeicdhihaaVmE
namespace Go.Proofs.Ytfnekjeicdhihaa
open Go.SX

noncomputable def goesR0 : Code := match Try.f17.body with
  | some (.seq x _) => x
  | _ => .skip
noncomputable def goesR1 : Code := match Try.f17.body with
  | some (.seq _ (.seq x _)) => x
  | _ => .skip
noncomputable def goesR2 : Code := match Try.f17.body with
  | some (.seq _ (.seq _ (.seq x _))) => x
  | _ => .skip
theorem goes_code : Try.f17.body = some (.seq goesR0 (.seq goesR1 (.seq goesR2 (.block 0 (.loop goesLoop))))) := rfl
/-- As 'goes' is entered. -/
def sG : S := ⟨[], 7, [⟨0, true, 67, true, false, none, runSegs (.fn 10 []) .nils⟩,
  ⟨2, false, 43, false, false, none, [.arr (.av 3) insKs (.v 1)]⟩,
  ⟨3, false, 5, false, false, none, [.arr (.av 4) [.int .u8] (.v 2)]⟩,
  ⟨4, false, 30, false, false, none, [.arr (.av 5) [.int .u32] (.v 3)]⟩]⟩
def tmG : TM := some (.ptr 0 0 0 (.c 0)) :: List.replicate 78 none
def begins (iv av : List (Nat × E)) : Bool := iv.all (fun p => if p.1 = 14 then decide (p.2 = .c 0) else decide (p.2 = .v p.1)) && decide (lk iv 14 (.v 14) = .c 0) && av.all (fun p => decide (p.2 = .av p.1))
def okBegin (o : Option (List Out)) : Bool := match o with
  | some l => l.all fun
    | .nor tm s => match mt tmT (sT false (.av 3) []) (tm.set 2 (some (.bool (.c 0)))) s with
      | some θ => θ.id 0 == 0 && begins θ.iv θ.av && (match tm[1]? with
        | some (some (V.ptr _ _ _ _)) => true
        | _ => false) && (match tm[4]? with
        | some none => true
        | _ => false)
      | none => false
    | _ => false
  | none => false
theorem okBegin_all : okBegin (sx Try.prog noK 200 goesR0 tmG sG) = true := by kernel_rfl
def start (ρ : Env) : Env := { ρ with iv := fun i => if i = 14 then 0 else ρ.iv i }

section
variable {ρ : Env} {W0 : World} {σ : Sig} {b : Bool} {w : World}
theorem begins_env {iv av : List (Nat × E)} (h : begins iv av = true) : envOf iv av ρ = start ρ := by
  simp only [begins, Bool.and_eq_true, List.all_eq_true, decide_eq_true_eq] at h
  have h1 : ∀ i, lk iv i (.v i) = if i = 14 then .c 0 else .v i := fun i => by
    by_cases hi : i = 14
    · subst hi; simpa using h.1.2
    · rw [if_neg hi]
      rcases lk_cases iv i (.v i) with e | ⟨p, hp, rfl, e⟩
      · exact e
      · have h3 := h.1.1 p hp
        rw [if_neg hi] at h3
        rw [e]; simpa using h3
  have h2 : ∀ i, lk av i (.av i) = .av i := fun i => by
    rcases lk_cases av i (.av i) with e | ⟨p, hp, rfl, e⟩
    · exact e
    · rw [e]; exact h.2 p hp
  simp only [envOf, h1, h2, start]
  congr 1
  funext i
  by_cases hi : i = 14
  · simp [hi, E.n_c]
  · simp only [hi, if_false, E.n_v]

theorem r1_wp {Q : Exit → Act → World → Prop} {a : Act} {p : Value} (hp : a.tmps[1]?.getD undef = p) (hs : 4 < a.tmps.size) (h : Q .normal { tmps := a.tmps.setIfInBounds 4 (.func (.func 23) #[] #[p]), defers := { target := .fn (.func 23) #[p], args := #[] } :: a.defers } w) : goesR1.wp Try.prog Q a w := by
  have hmf : ∀ (fn : Fn) (first cap : Array Value) (w : World), (Instr.makeFunc fn first cap).run Try.prog w = .ok (.func fn first cap) w := fun _ _ _ _ => rfl
  refine wp_region ?_
  simp [wpOps, go_sem, hmf, hp, hs, Oper.upon]
  exact .inl (.inl h)
theorem r2_wp {Q : Exit → Act → World → Prop} {a : Act} (h : Q .normal { a with tmps := a.tmps.setIfInBounds 2 (.bool false) } w) : goesR2.wp Try.prog Q a w := by
  refine wp_region ?_
  simp [wpOps, go_sem]
  exact .inl h

theorem ends_of_next {b' : Bool} {iv av : List (Nat × E)} (h0 : ρ.iv 14 = 0) (h1 : ρ.iv 4 < ρ.iv 1) (hw : Way b ρ (.next b' iv av)) {b2 : Bool} {ρ2 : Env} (h : Ends b' (envOf iv av (fetch ρ)) b2 ρ2) : Ends b ρ b2 ρ2 := .next h0 h1 hw h
/-- **The loop.** -/
theorem rounds_ok {Q : Exit → Act → World → Prop} {D : List Deferred} {b0 : Bool} {ρ0 : Env} {σ0 : Sig}
    (hX : ∀ b ρ σ a w, Ends b0 ρ0 b ρ → Stay σ0 σ → a.defers = D → Gam ρ W0 σ (sT b (.av 3) []) w → Q (.exit 0) a w)
    (hP : ∀ b ρ σ a w n, Ends b0 ρ0 b (fault n ρ) → Stay σ0 σ → a.defers = D → Gam ρ W0 σ (sT b (.av 3) []) w → Q (.panic [{ v := .iface 75 (.agg #[.int .i64 n]), recovered := false }]) a w) :
    ∀ (n : Nat) (b : Bool) (ρ : Env) (σ : Sig) (a : Act) (w : World), (ρ.iv 1 - ρ.iv 4).toNat < n → Inv b ρ → (∀ b2 ρ2, Ends b ρ b2 ρ2 → Ends b0 ρ0 b2 ρ2) → Stay σ0 σ → a.defers = D → Gam ρ W0 σ (sT b (.av 3) []) w → FR ρ σ tmT a →
      Code.rounds Try.prog goesLoop Q n a w
  | 0, b, ρ, σ, a, w, hn, _, _, _, _, _, _ => absurd hn (Nat.not_lt_zero _)
  | n + 1, b, ρ, σ, a, w, hn, hI, hE, hS, hD, g, hf => by
    rw [rounds_succ]
    refine turn hI g hf (fun h14 a' w' σ' hd st g' f' => ?_) (fun h14 hge a' w' σ' hd st g' => ?_) (fun h14 hlt b' iv av hw a' w' σ' hd st g' f' => ?_) (fun h14 hlt n b' iv av hw a' w' σ' hd st g' => ?_)
    · exact hX b ρ σ' a' w' (hE _ _ (.stop h14)) (hS.trans st) (hd.trans hD) g'
    · exact hP b (fetch ρ) σ' a' w' 1 (hE _ _ (.jump h14 hge)) (hS.trans st) (hd.trans hD) g'
    · obtain ⟨i1, i2, i3, _⟩ := way_next hI hlt hw
      have e1 := i3 1 (by omega)
      exact rounds_ok hX hP n b' _ σ' a' w' (by omega) i1 (fun b2 ρ2 h => hE _ _ (.next h14 hlt hw h)) (hS.trans st) (hd.trans hD) g' f'
    · exact hP b' _ σ' a' w' n (hE _ _ (.halt h14 hlt hw)) (hS.trans st) (hd.trans hD) g'

theorem tmG_fr {x : Value} (hx : (V.ptr 0 0 0 (.c 0)).val ρ σ = some x) {a : Act} (ha : a.tmps = #[x] ++ Array.replicate 78 undef) : FR ρ σ tmG a := by
  refine ⟨by rw [ha]; simp [tmG], fun i v hi => ?_⟩
  have h0 : a.tmps[0]? = some x := by rw [ha]; simp
  rcases i with _ | i
  · simp [tmG] at hi; subst hi; rw [hx, h0]
  · have : (tmG[i + 1]? : Option (Option V)) = (List.replicate 78 none)[i]? := rfl
    rw [this, List.getElem?_replicate] at hi
    split at hi <;> cases hi

/-- **The contract of 'goes'.** -/
theorem goes_ok {x : Value} (hx : (V.ptr 0 0 0 (.c 0)).val ρ σ = some x) (g : Gam ρ W0 σ sG w) (hI : Inv false (start ρ)) :
    Calls Try.prog 17 #[x] w fun e w' => e = .returned (.tuple #[]) ∧ ∃ b' ρ' σ', Ends false (start ρ) b' ρ' ∧ σ'[0]? = σ[0]? ∧ Gam ρ' W0 σ' (sT b' (.av 3) []) w' := by
  refine calls_of_wp_defers Try.func17 goes_code ?_
  have hn : Try.f17.ntmps = 79 := rfl
  have hk := okBegin_all
  unfold okBegin at hk
  split at hk
  · rename_i l hl
    rw [List.all_eq_true] at hk
    refine wp_seq (wp_mono (sx_ok (K := noK) noK_ok named_ok mixed_ok 200 goesR0 _ _ l hl ρ (fun s hs => by have := hk _ hs; simp at this) W0 σ _ _ g (tmG_fr hx (by simp [hn]))) fun e a1 w1 hs => ?_)
    cases e with
    | normal =>
      obtain ⟨hd, tm, s, τ, hm, g1, f1⟩ := hs
      have := hk _ hm
      simp only at this
      split at this
      · rename_i θ hθ
        simp only [Bool.and_eq_true, beq_iff_eq] at this
        obtain ⟨⟨⟨h0, hb⟩, ht1⟩, ht4⟩ := this
        have hsz : a1.tmps.size = 79 := by
          rw [← f1.1]
          have h1 := mt_ok hθ g1 (a := ⟨a1.tmps.setIfInBounds 2 (.bool false), []⟩) ⟨by simp [f1.1], fun i v hi => ?_⟩ (fun e he => nomatch he)
          · have := h1.2.1
            simp only [Array.size_setIfInBounds] at this
            rw [f1.1, ← this]; rfl
          · rw [List.getElem?_set] at hi
            by_cases h2 : 2 = i
            · subst h2
              simp only [if_true] at hi
              split at hi
              · rename_i hlt
                cases hi
                rw [Array.getElem?_setIfInBounds_self_of_lt (by rw [← f1.1]; exact hlt)]; rfl
              · cases hi
            · rw [if_neg h2] at hi
              rw [Array.getElem?_setIfInBounds_ne h2]; exact f1.2 i v hi
        obtain ⟨p, hp⟩ : ∃ p, a1.tmps[1]? = some p := ⟨a1.tmps[1], by simp [hsz]⟩
        have hpd : a1.tmps[1]?.getD undef = p := by rw [hp]; rfl
        refine wp_seq (r1_wp hpd (by omega) (wp_seq (r2_wp ?_)))
        have hset : FR ρ (σ ++ τ) (tm.set 2 (some (.bool (.c 0)))) { tmps := (a1.tmps.setIfInBounds 4 (.func (.func 23) #[] #[p])).setIfInBounds 2 (.bool false), defers := { target := .fn (.func 23) #[p], args := #[] } :: a1.defers } := by
          refine ⟨by simp [f1.1], fun i v hi => ?_⟩
          rw [List.getElem?_set] at hi
          by_cases h2 : 2 = i
          · subst h2
            simp only [if_true] at hi
            split at hi
            · cases hi
              rw [Array.getElem?_setIfInBounds_self_of_lt (by simp [hsz])]; rfl
            · cases hi
          · rw [if_neg h2] at hi
            by_cases h4 : 4 = i
            · subst h4
              rw [hi] at ht4
              simp at ht4
            · rw [Array.getElem?_setIfInBounds_ne h2, Array.getElem?_setIfInBounds_ne h4]; exact f1.2 i v hi
        obtain ⟨g2, f2⟩ := mt_ok hθ g1 hset (fun e he => nomatch he)
        obtain ⟨q1, q2, q3⟩ := mt_facts hθ
        have henv : θ.env ρ = start ρ := begins_env hb
        rw [henv] at g2 f2
        have hs0 : (θ.sig (σ ++ τ))[0]? = σ[0]? := by
          rw [Sub.sig_get q1 (by rw [g1.len, q2]), h0, List.getElem?_append_left (by rw [g.len]; simp [sG])]
        have hbox : (V.ptr 1 0 0 (.c 0)).val (start ρ) (θ.sig (σ ++ τ)) = some p := by
          have := f2.2 1 (.ptr 1 0 0 (.c 0)) rfl
          rw [this]
          show ((a1.tmps.setIfInBounds 4 _).setIfInBounds 2 _)[1]? = some p
          rw [Array.getElem?_setIfInBounds_ne (by omega), Array.getElem?_setIfInBounds_ne (by omega), hp]
        have hboxS : ∀ σ' ρ', Stay (θ.sig (σ ++ τ)) σ' → (V.ptr 1 0 0 (.c 0)).val ρ' σ' = some p := by
          intro σ' ρ' hst
          rw [← hbox]
          simp only [V.val, addrOf, hst.2]
          rfl
        refine wp_block (wp_loop_rounds ((start ρ).iv 1 - (start ρ).iv 4).toNat.succ (rounds_ok (b0 := false) (ρ0 := start ρ) (σ0 := θ.sig (σ ++ τ)) (D := { target := .fn (.func 23) #[p], args := #[] } :: a1.defers) (fun b ρ' σ' a' w' hE hst hd' g' => ?_) (fun b ρ' σ' a' w' n hE hst hd' g' => ?_) _ false (start ρ) _ _ _ (Nat.lt_succ_self _) hI (fun _ _ h => h) ⟨rfl, rfl⟩ rfl g2 f2))
        · simp only [Exit.inBlock, if_true, bodyPostD, hd', hd]
          refine leaves_cons (f := 23) (args := #[p]) (by simp) (by simp [go_sem]) ?_
          refine (rec_idle (hboxS _ _ hst) g').mono ?_
          rintro e u' w'' ⟨⟨v, rfl⟩, rfl, σ'', hst', g''⟩
          simp only [Leaves, settle]
          exact ⟨.tuple #[], by simp [results, Try.results17], rfl, b, ρ', σ'', hE, by rw [(hst.trans hst').1, hs0], g''⟩
        · simp only [Exit.inBlock, bodyPostD, hd', hd]
          refine leaves_cons (f := 23) (args := #[p]) (by simp) (by simp [go_sem]) ?_
          refine (rec_pan (hboxS _ _ hst) n g').mono ?_
          rintro e u' w'' ⟨⟨v, rfl⟩, rfl, σ'', hst', g''⟩
          simp only [Leaves, settle, List.dropWhile]
          exact ⟨.tuple #[], by simp [results, Try.results17], rfl, b, _, σ'', hE, by rw [(hst.trans hst').1, hs0], g''⟩
      · cases this
    | exit id => obtain ⟨hd, tm, s, τ, hm, g2, f2⟩ := hs; have := hk _ hm; simp at this
    | goto l => obtain ⟨hd, tm, s, τ, hm, g2, f2⟩ := hs; have := hk _ hm; simp at this
    | ret => obtain ⟨hd, tm, s, τ, hm, g2, f2⟩ := hs; have := hk _ hm; simp at this
    | panic ch => obtain ⟨hd, v, s, τ, x, hm, g2⟩ := hs; have := hk _ hm; simp at this
    | outgrown => exact hs.elim
  · cases hk
end
end Go.Proofs.Ytfnekjeicdhihaa
