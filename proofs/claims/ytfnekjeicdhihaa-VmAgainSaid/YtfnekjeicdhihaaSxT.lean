/- A symbolic executor, part T: a call that was told of a small state, as a contract. -/
import Derived.Test.YtfnekjeicdhihaaSxS
namespace Go.SX

def matchF (tm0 : List V) (s0 : S) (vs : List V) (s : S) : Option Sub :=
  let acc := mH s.H s0.H (mVL tm0 vs ([], [], []))
  let θ : Sub := ⟨acc.1, acc.2.1, acc.2.2, s0.nx, s.nx⟩
  if (chkS θ s0 (pickF θ s0 s) && sameL (subL θ tm0) vs && s0.pc.all fun e => known s.pc (e.sub θ)) = true then some θ else none
def isZero : E → Bool
  | .c n => n == 0
  | _ => false
/-- Facts that cannot be. -/
def never2 (p q : List E) : Bool := p.any isZero || contra p q
def frameO (θ : Sub) (s0 s : S) : COut → Option (Option COut)
  | .ret v s0' => if okF s0 s0' = true then some (if never2 (pcF θ s0 s0') s.pc = true then none else some (.ret (v.sub (extF θ s0 s0')) (framedS θ (extF θ s0 s0') s0 s0' s))) else none
  | .pan v s0' => if okF s0 s0' = true then some (if never2 (pcF θ s0 s0') s.pc = true then none else some (.pan (v.sub (extF θ s0 s0')) (framedS θ (extF θ s0 s0') s0 s0' s))) else none
  | .bad _ => none
def someC : List (Option COut) → List COut
  | [] => []
  | some x :: l => x :: someC l
  | none :: l => someC l
theorem someC_mem : ∀ {l : List (Option COut)} {x : COut}, x ∈ someC l ↔ some x ∈ l
  | [], x => by simp [someC]
  | some y :: l, x => by simp [someC, someC_mem]
  | none :: l, x => by simp [someC, someC_mem]
def plainF (θ : Sub) : Bool := θ.iv.all (fun p => decide (p.2 = .v p.1)) && θ.av.all (fun p => decide (p.2 = .av p.1))
/-- A call of function f0, told of a small state. -/
def frameK (f0 : Nat) (tm0 : List V) (s0 : S) (l0 : List COut) (pl : Bool) : CallF := fun f vs s => if f = f0 then match matchF tm0 s0 vs s with
  | some θ => if (!pl || plainF θ) = true then (l0.mapM (frameO θ s0 s)).map someC else none
  | none => none
  else none

section
variable {ρ : Env} {W0 : World} {σ : Sig} {P : Program}
theorem lk_plain {α : Type} {l : List (Nat × α)} {f : Nat → α} (h : ∀ p ∈ l, p.2 = f p.1) (i : Nat) : lk l i (f i) = f i := by
  unfold lk; split
  · rename_i p hp
    have := List.find?_some hp
    rw [h p (List.mem_of_find?_eq_some hp), eq_of_beq this]
  · rfl
theorem plainF_env {θ : Sub} (h : plainF θ = true) : θ.env ρ = ρ := by
  simp only [plainF, Bool.and_eq_true, List.all_eq_true, decide_eq_true_eq] at h
  have h1 : ∀ i, lk θ.iv i (.v i) = .v i := lk_plain (f := E.v) h.1
  have h2 : ∀ i, lk θ.av i (.av i) = .av i := lk_plain (f := E.av) h.2
  simp only [Sub.env, h1, h2]; rfl
theorem never2_ok {p q : List E} (h1 : PC ρ p) (h2 : PC ρ q) : never2 p q = false := by
  cases h : never2 p q
  · rfl
  · simp only [never2, Bool.or_eq_true, List.any_eq_true] at h
    rcases h with ⟨e, he, hz⟩ | h
    · have := h1 e he
      unfold isZero at hz
      split at hz
      · rename_i n
        rw [eq_of_beq hz] at this
        exact absurd rfl this
      · cases hz
    · exact (contra_ok h h1 h2).elim
theorem frameK_ok {f0 : Nat} {tm0 : List V} {s0 : S} {l0 : List COut} {pl : Bool}
    (h : ∀ (ρ' : Env) (W : World) (σ : Sig) (w : World) (xs : List Value), (pl = true → ρ' = ρ) → Gam ρ' W σ s0 w → valL ρ' σ tm0 = some xs →
      (callFunc f0 xs.toArray).run P w = .ok (.enter f0 xs.toArray) w ∧ Calls P f0 xs.toArray w (SPC ρ' W σ l0)) : CallOK ρ P (frameK f0 tm0 s0 l0 pl) := by
  intro W0 f vs s l hl _ σ w xs g hv
  unfold frameK at hl
  split at hl
  case isFalse => cases hl
  rename_i hf
  subst hf
  split at hl
  case h_2 => cases hl
  rename_i θ hθ
  split at hl
  case isFalse => cases hl
  rename_i hpl
  simp only [Option.map_eq_some_iff] at hl
  obtain ⟨m, hm, rfl⟩ := hl
  unfold matchF at hθ
  dsimp only at hθ
  split at hθ
  case isFalse => cases hθ
  rename_i hc
  simp only [Option.some.injEq] at hθ
  rw [hθ] at hc
  simp only [Bool.and_eq_true, List.all_eq_true] at hc
  obtain ⟨⟨hc1, hc2⟩, hc3⟩ := hc
  have gp : Gam ρ w σ (pickF θ s0 s) w := g.pick _ _
  have hok : θ.ok = true ∧ θ.nx = s.nx := by
    have := hc1
    simp only [chkS, Bool.and_eq_true, beq_iff_eq] at this
    exact ⟨this.1.1.1.1.1.1, this.1.1.1.1.2⟩
  have hl : σ.length = θ.nx := by rw [hok.2]; exact g.len
  have g0 := gp.recast hc1 (fun e he => by
    rw [← E.sub_n hok.1]
    exact known_n g.pc (hc3 e he))
  have hv0 : valL (θ.env ρ) (θ.sig σ) tm0 = some xs := by
    rw [← subL_val hok.1 hl, sameL_eq _ _ hc2]; exact hv
  have hp : pl = true → θ.env ρ = ρ := fun hp => by
    rw [hp] at hpl
    exact plainF_env (by simpa using hpl)
  obtain ⟨h1, h2⟩ := h (θ.env ρ) w (θ.sig σ) w xs hp g0 hv0
  refine ⟨h1, h2.mono fun e w' hs => ?_⟩
  have key : ∀ {v0 : V} {s0' : S} {τ : Sig} {x : Value}, okF s0 s0' = true → Gam (θ.env ρ) w (θ.sig σ ++ τ) s0' w' → v0.val (θ.env ρ) (θ.sig σ ++ τ) = some x →
      never2 (pcF θ s0 s0') s.pc = false ∧ Gam ρ W0 (σ ++ τ) (framedS θ (extF θ s0 s0') s0 s0' s) w' ∧ (v0.sub (extF θ s0 s0')).val ρ (σ ++ τ) = some x := by
    intro v0 s0' τ x hk g' hv'
    have hn0 : θ.n0 = s0.nx := by
      have := hc1
      simp only [chkS, Bool.and_eq_true, beq_iff_eq] at this
      exact this.1.1.1.1.1.2
    have hle : s0.nx ≤ s0'.nx := by
      simp only [okF, Bool.and_eq_true, decide_eq_true_eq] at hk
      exact hk.2
    have hsl : (θ.sig σ).length = s0.nx := by simp [Sub.sig, hn0]
    have hτl : τ.length = s0'.nx - s0.nx := by have := g'.len; rw [List.length_append, hsl] at this; omega
    have hl' : (σ ++ τ).length = (extF θ s0 s0').nx := by simp [extF, hl, hτl]
    refine ⟨never2_ok (ρ := ρ) (fun e he => ?_) g.pc, frame_ok g hc1 hk g', ?_⟩
    · simp only [pcF, List.mem_map] at he
      obtain ⟨e', he', rfl⟩ := he
      rw [E.sub_n hok.1]
      exact g'.pc _ (List.mem_filter.1 he').1
    · rw [V.sub_val (extF_ok hok.1 hn0 hle) hl', extF_sig hok.1 hl hn0 hle g'.len]; exact hv'
  cases e with
  | returned x =>
    obtain ⟨v0, s0', τ, hmem, g', hv'⟩ := hs
    obtain ⟨y, hy, he⟩ := mapM_mem hm _ hmem
    simp only [frameO] at he
    split at he
    case isFalse => cases he
    rename_i hk
    obtain ⟨k1, k2, k3⟩ := key hk g' hv'
    rw [k1] at he
    simp only [Bool.false_eq_true, if_false, Option.some.injEq] at he
    subst he
    exact ⟨_, _, τ, someC_mem.2 hy, k2, k3⟩
  | panicked c =>
    obtain ⟨v0, s0', τ, x, hmem, g', hv', hcx⟩ := hs
    obtain ⟨y, hy, he⟩ := mapM_mem hm _ hmem
    simp only [frameO] at he
    split at he
    case isFalse => cases he
    rename_i hk
    obtain ⟨k1, k2, k3⟩ := key hk g' hv'
    rw [k1] at he
    simp only [Bool.false_eq_true, if_false, Option.some.injEq] at he
    subst he
    exact ⟨_, _, τ, x, someC_mem.2 hy, k2, k3, hcx⟩
  | outgrown => exact hs.elim
def notBad : COut → Bool
  | .bad _ => false
  | _ => true
theorem nbc_of {l : List COut} (h : l.all notBad = true) : NBC ρ l := fun s hs => by
  have := List.all_eq_true.1 h _ hs
  simp [notBad] at this
/-- What the executor tells of a call, told of a small state. -/
theorem frame_of {A : CallF} {f0 : Nat} {tm0 : List V} {s0 : S} {l0 : List COut} {pl : Bool} (hA : ∀ ρ', (pl = true → ρ' = ρ) → CallOK ρ' P A) (hl : A f0 tm0 s0 = some l0) (hb : l0.all notBad = true) : CallOK ρ P (frameK f0 tm0 s0 l0 pl) :=
  frameK_ok fun ρ' W σ w xs hp g hv => hA ρ' hp W f0 tm0 s0 l0 hl (nbc_of hb) σ w xs g hv
end
end Go.SX
