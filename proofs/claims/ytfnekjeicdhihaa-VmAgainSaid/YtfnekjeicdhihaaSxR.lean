/- A symbolic executor, part R: outcomes told more coarsely: blocks are numbered anew, and what is of no use is forgotten. -/
import Derived.Test.YtfnekjeicdhihaaSxQ
namespace Go.SX

def coarse1 (nb : Nat) (keep : E → Bool) (v : V) (s : S) : Option (V × S) := match canon nb keep [some v] s with
  | some ([some v0], s0) => some (v0, s0)
  | _ => none
def coarse (nb : Nat) (keep : E → Bool) : COut → Option COut
  | .ret v s => (coarse1 nb keep v s).map fun p => .ret p.1 p.2
  | .pan v s => (coarse1 nb keep v s).map fun p => .pan p.1 p.2
  | .bad s => some (.bad s)
/-- What cannot be is left out. -/
def canBe (o : COut) : Bool := !contra o.pc o.pc
def coarseL (nb : Nat) (keep : E → Bool) (l : List COut) : Option (List COut) := ((l.filter canBe).mapM (coarse nb keep)).map onceC

section
variable {ρ : Env} {W0 : World} {σ : Sig} {P : Program}
theorem coarse1_ok {nb : Nat} {keep : E → Bool} {v v0 : V} {s s0 : S} (h : coarse1 nb keep v s = some (v0, s0)) (hl : σ.length = nb) {τ : Sig} {w : World} {x : Value} (g : Gam ρ W0 (σ ++ τ) s w) (hv : v.val ρ (σ ++ τ) = some x) :
    ∃ τ0, Gam ρ W0 (σ ++ τ0) s0 w ∧ v0.val ρ (σ ++ τ0) = some x := by
  unfold coarse1 at h
  split at h
  case h_2 => cases h
  rename_i v1 s1 hc
  cases h
  obtain ⟨τ0, h1, _, h3⟩ := canon_ok (l := [x]) hc hl g (fun i u hi => by
    rcases i with _ | i
    · simp only [List.getElem?_cons_zero, Option.some.injEq] at hi; subst hi; exact hv
    · simp at hi)
  exact ⟨τ0, h1, h3 0 v0 rfl⟩
theorem canBe_of {o : COut} (h : PC ρ o.pc) : canBe o = true := by
  unfold canBe
  cases hc : contra o.pc o.pc
  · rfl
  · exact (contra_ok hc h h).elim
theorem coarseL_nb {nb : Nat} {keep : E → Bool} {l m : List COut} (h : coarseL nb keep l = some m) (hn : NBC ρ m) : NBC ρ l := by
  simp only [coarseL, Option.map_eq_some_iff] at h
  obtain ⟨m0, h0, rfl⟩ := h
  intro s hs hp
  obtain ⟨y, hy, he⟩ := mapM_mem h0 _ (List.mem_filter.2 ⟨hs, canBe_of hp⟩)
  simp only [coarse, Option.some.injEq] at he
  subst he
  exact hn s (onceC_mem hy) hp
theorem coarseL_ok {nb : Nat} {keep : E → Bool} {l m : List COut} (h : coarseL nb keep l = some m) (hl : σ.length = nb) {e : Ending} {w : World} (hs : SPC ρ W0 σ l e w) : SPC ρ W0 σ m e w := by
  simp only [coarseL, Option.map_eq_some_iff] at h
  obtain ⟨m0, h0, rfl⟩ := h
  cases e with
  | returned x =>
    obtain ⟨v, s, τ, hm, g, hv⟩ := hs
    obtain ⟨y, hy, he⟩ := mapM_mem h0 _ (List.mem_filter.2 ⟨hm, canBe_of g.pc⟩)
    simp only [coarse, Option.map_eq_some_iff] at he
    obtain ⟨p, hp, rfl⟩ := he
    obtain ⟨τ0, h1, h2⟩ := coarse1_ok hp hl g hv
    exact ⟨p.1, p.2, τ0, onceC_mem hy, h1, h2⟩
  | panicked c =>
    obtain ⟨v, s, τ, x, hm, g, hv, hc⟩ := hs
    obtain ⟨y, hy, he⟩ := mapM_mem h0 _ (List.mem_filter.2 ⟨hm, canBe_of g.pc⟩)
    simp only [coarse, Option.map_eq_some_iff] at he
    obtain ⟨p, hp, rfl⟩ := he
    obtain ⟨τ0, h1, h2⟩ := coarse1_ok hp hl g hv
    exact ⟨p.1, p.2, τ0, x, onceC_mem hy, h1, h2, hc⟩
  | outgrown => exact hs.elim
/-- A call told more coarsely. -/
def coarseC (keep : S → E → Bool) (call : CallF) : CallF := fun f vs s => match call f vs s with
  | some l => coarseL s.nx (keep s) l
  | none => none
theorem coarseC_ok {keep : S → E → Bool} {call : CallF} (hc : CallOK ρ P call) : CallOK ρ P (coarseC keep call) := by
  intro W0 f vs s l h hn σ w xs g hv
  unfold coarseC at h
  split at h
  case h_2 => cases h
  rename_i m hm
  obtain ⟨h1, h2⟩ := hc W0 f vs s m hm (coarseL_nb h hn) σ w xs g hv
  exact ⟨h1, h2.mono fun e w' hs => coarseL_ok h g.len hs⟩
/-- By the function: this one, or else that. -/
def orC (f : Nat) (a b : CallF) : CallF := fun g vs s => if g = f then a g vs s else b g vs s
theorem orC_ok {f : Nat} {a b : CallF} (ha : CallOK ρ P a) (hb : CallOK ρ P b) : CallOK ρ P (orC f a b) := by
  intro W0 g vs s l h hn σ w xs hg hv
  unfold orC at h
  split at h
  · exact ha W0 g vs s l h hn σ w xs hg hv
  · exact hb W0 g vs s l h hn σ w xs hg hv
end
end Go.SX
