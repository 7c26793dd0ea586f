/- A symbolic executor, part P: pieces of a code, states under other variables, ways that shut each other out. -/
import Derived.Test.YtfnekjeicdhihaaSxN
namespace Go.SX

section
variable {ρ : Env} {W0 : World} {σ : Sig} {P : Program}

/-! ### Pieces -/
def seqs : List Code → Code → Code
  | [], z => z
  | c :: cs, z => .seq c (seqs cs z)
def sxs (P : Program) (K : CallF) (n : Nat) : List Code → TM → S → Option (List Out)
  | [], tm, s => some [.nor tm s]
  | c :: cs, tm, s => match sx P K n c tm s with
    | some l => bindO l (sxs P K n cs)
    | none => none
theorem sxs_ok {K : CallF} (hK : CallOK ρ P K) (hname : named P = true) (hmix : P.follows .mixedOrders = true) {n : Nat} {z : Code} {Q : Exit → Act → World → Prop} : ∀ {cs : List Code} {tm : TM} {s : S} {l : List Out},
    sxs P K n cs tm s = some l → NB ρ l → ∀ {σ : Sig} {a : Act} {w : World}, Gam ρ W0 σ s w → FR ρ σ tm a → (∀ e a' w', SP ρ W0 σ a.defers l e a' w' → Exit.then (z.wp P Q) Q e a' w') → (seqs cs z).wp P Q a w
  | [], tm, s, l, h, hn, σ, a, w, g, hf, hQ => by
    simp only [sxs, Option.some.injEq] at h
    subst h
    exact hQ .normal a w (sp_here (List.mem_singleton.2 rfl) g hf rfl)
  | c :: cs, tm, s, l, h, hn, σ, a, w, g, hf, hQ => by
    simp only [sxs] at h
    split at h
    · rename_i m hm
      refine wp_seq (wp_mono (sxr_ok hK hname hmix n c tm s m hm (NB.of_bind h hn) W0 σ a w g hf) fun e a' w' hs => ?_)
      cases e with
      | normal =>
        obtain ⟨hd, tm', s', τ, h1, h2, h3⟩ := hs
        obtain ⟨m2, h4, h5⟩ := bindO_nor h h1
        refine sxs_ok hK hname hmix h4 (hn.sub h5) h2 h3 fun e a'' w'' hs => hQ e a'' w'' ?_
        rw [hd] at hs
        exact (hs.mono h5).more
      | exit id => obtain ⟨hd, tm', s', τ, h1, h2⟩ := hs; exact hQ (.exit id) _ _ ⟨hd, tm', s', τ, bindO_other h h1 rfl, h2⟩
      | goto l => obtain ⟨hd, tm', s', τ, h1, h2⟩ := hs; exact hQ (.goto l) _ _ ⟨hd, tm', s', τ, bindO_other h h1 rfl, h2⟩
      | ret => obtain ⟨hd, tm', s', τ, h1, h2⟩ := hs; exact hQ .ret _ _ ⟨hd, tm', s', τ, bindO_other h h1 rfl, h2⟩
      | panic ch => obtain ⟨hd, v, s', τ, x, h1, h2⟩ := hs; exact hQ (.panic ch) _ _ ⟨hd, v, s', τ, x, bindO_other h h1 rfl, h2⟩
      | outgrown => exact hs.elim
    · cases h
def sxb (P : Program) (K : CallF) (n : Nat) (x : Code) (cs : List Code) (tm : TM) (s : S) : Option (List Out) := match sx P K n x tm s with
  | some l => bindO l (sxs P K n cs)
  | none => none
theorem sxb_ok {K : CallF} (hK : CallOK ρ P K) (hname : named P = true) (hmix : P.follows .mixedOrders = true) {n id : Nat} {x z : Code} {cs : List Code} {Q : Exit → Act → World → Prop} {tm : TM} {s : S} {l : List Out}
    (h : sxb P K n x cs tm s = some l) (hn : NB ρ l) {a : Act} {w : World} (g : Gam ρ W0 σ s w) (hf : FR ρ σ tm a)
    (hN : ∀ a' w', SP ρ W0 σ a.defers l .normal a' w' → z.wp P (Exit.inBlock id Q) a' w')
    (hE : ∀ e a' w', e ≠ .normal → SP ρ W0 σ a.defers l e a' w' → Q e a' w' ∧ Exit.inBlock id Q e a' w') : (Code.seq x (.block id (seqs cs z))).wp P Q a w := by
  simp only [sxb] at h
  split at h
  · rename_i m hm
    refine wp_seq (wp_mono (sxr_ok hK hname hmix n x tm s m hm (NB.of_bind h hn) W0 σ a w g hf) fun e a' w' hs => ?_)
    cases e with
    | normal =>
      obtain ⟨hd, tm', s', τ, h1, h2, h3⟩ := hs
      obtain ⟨m2, h4, h5⟩ := bindO_nor h h1
      refine wp_block (sxs_ok hK hname hmix h4 (hn.sub h5) h2 h3 fun e a'' w'' hs => ?_)
      rw [hd] at hs
      have hs' := (hs.mono h5).more
      by_cases he : e = .normal
      · subst he; exact hN _ _ hs'
      · have := (hE e a'' w'' he hs').2
        cases e <;> first | exact absurd rfl he | exact this
    | exit id => obtain ⟨hd, tm', s', τ, h1, h2⟩ := hs; exact (hE (.exit id) _ _ (by simp) ⟨hd, tm', s', τ, bindO_other h h1 rfl, h2⟩).1
    | goto l => obtain ⟨hd, tm', s', τ, h1, h2⟩ := hs; exact (hE (.goto l) _ _ (by simp) ⟨hd, tm', s', τ, bindO_other h h1 rfl, h2⟩).1
    | ret => obtain ⟨hd, tm', s', τ, h1, h2⟩ := hs; exact (hE .ret _ _ (by simp) ⟨hd, tm', s', τ, bindO_other h h1 rfl, h2⟩).1
    | panic ch => obtain ⟨hd, v, s', τ, x, h1, h2⟩ := hs; exact (hE (.panic ch) _ _ (by simp) ⟨hd, v, s', τ, x, bindO_other h h1 rfl, h2⟩).1
    | outgrown => exact hs.elim
  · cases h

/-! ### Other variables -/
theorem Gam.reenv {s : S} {w : World} (g : Gam ρ W0 σ s w) {ρ' : Env} {pc : List E} (seg : List V → List V) (hs : ∀ c ∈ s.H, cellsL ρ' σ (seg c.segs) = cellsL ρ σ c.segs) (hp : PC ρ' pc) :
    Gam ρ' W0 σ ⟨pc, s.nx, s.H.map fun c => { c with segs := seg c.segs }⟩ w where
  pc := hp
  len := g.len
  ids := by have := g.ids; simpa [List.map_map, Function.comp_def] using this
  ch := fun c hc => by
    obtain ⟨d, hd, rfl⟩ := List.mem_map.1 hc
    obtain ⟨k, o, cs, e1, e2, e3, e4, e5⟩ := g.ch d hd
    exact ⟨k, o, cs, e1, by rw [hs d hd]; exact e2, e3, e4, e5⟩
  sep := by
    intro c hc d hd
    obtain ⟨c', hc', rfl⟩ := List.mem_map.1 hc
    obtain ⟨d', hd', rfl⟩ := List.mem_map.1 hd
    exact g.sep c' hc' d' hd'
  size := g.size
  tape := g.tape
  os := g.os
  out := g.out
  kept := fun k hk h => g.kept k hk fun c hc ho => h { c with segs := seg c.segs } (List.mem_map.2 ⟨c, hc, rfl⟩) ho
theorem Gam.withPc {s : S} {w : World} (g : Gam ρ W0 σ s w) {pc : List E} (hp : PC ρ pc) : Gam ρ W0 σ { s with pc := pc } w := { g with pc := hp }

/-! ### Without the values that are not numbers -/
theorem E.den_iv {ρ ρ' : Env} (h1 : ρ'.iv = ρ.iv) (h2 : ρ'.av = ρ.av) : ∀ e : E, e.den ρ' = e.den ρ
  | .c _ | .zz => rfl
  | .v i => by simp only [E.den, h1]
  | .av i => by simp only [E.den, h2]
  | .un o a => by simp only [E.den, E.den_iv h1 h2 a]
  | .bi o a b => by simp only [E.den, E.den_iv h1 h2 a, E.den_iv h1 h2 b]
  | .te x a b => by simp only [E.den, E.den_iv h1 h2 x, E.den_iv h1 h2 a, E.den_iv h1 h2 b]
  | .set a i k x => by simp only [E.den, E.den_iv h1 h2 a, E.den_iv h1 h2 i, E.den_iv h1 h2 x]
  | .get a i k => by simp only [E.den, E.den_iv h1 h2 a, E.den_iv h1 h2 i]

/-- Variables that an expression speaks of; 'x' tells what else may stand in it. -/
def E.only (x : E → Bool) (p q : Nat → Bool) : E → Bool
  | .c _ | .zz => true
  | .v i => p i
  | .av i => q i
  | .un _ a => a.only x p q
  | .bi _ a b => a.only x p q && b.only x p q
  | .te y a b => y.only x p q && a.only x p q && b.only x p q
  | .set a i _ y => a.only x p q && i.only x p q && y.only x p q
  | .get a i k => x (.get a i k) || a.only x p q && i.only x p q
theorem E.den_only {ρ ρ' : Env} {x : E → Bool} {p q : Nat → Bool} (h0 : ∀ e, x e = true → e.den ρ' = e.den ρ) (h1 : ∀ i, p i = true → ρ'.iv i = ρ.iv i) (h2 : ∀ i, q i = true → ρ'.av i = ρ.av i) : ∀ e : E, e.only x p q = true → e.den ρ' = e.den ρ
  | .c _, _ | .zz, _ => rfl
  | .v i, h => by simp only [E.den, h1 i h]
  | .av i, h => by simp only [E.den, h2 i h]
  | .un o a, h => by simp only [E.den, E.den_only h0 h1 h2 a h]
  | .bi o a b, h => by
    simp only [E.only, Bool.and_eq_true] at h
    simp only [E.den, E.den_only h0 h1 h2 a h.1, E.den_only h0 h1 h2 b h.2]
  | .te y a b, h => by
    simp only [E.only, Bool.and_eq_true] at h
    simp only [E.den, E.den_only h0 h1 h2 y h.1.1, E.den_only h0 h1 h2 a h.1.2, E.den_only h0 h1 h2 b h.2]
  | .set a i k y, h => by
    simp only [E.only, Bool.and_eq_true] at h
    simp only [E.den, E.den_only h0 h1 h2 a h.1.1, E.den_only h0 h1 h2 i h.1.2, E.den_only h0 h1 h2 y h.2]
  | .get a i k, h => by
    simp only [E.only, Bool.or_eq_true, Bool.and_eq_true] at h
    rcases h with h | h
    · exact h0 _ h
    · simp only [E.den, E.den_only h0 h1 h2 a h.1, E.den_only h0 h1 h2 i h.2]

/-! ### Ways that shut each other out -/
def contra (p q : List E) : Bool := p.any fun e => q.any fun f => decide (f = neg e) || decide (e = neg f)
theorem contra_ok {p q : List E} (h : contra p q = true) (h1 : PC ρ p) (h2 : PC ρ q) : False := by
  simp only [contra, List.any_eq_true, Bool.or_eq_true, decide_eq_true_eq] at h
  obtain ⟨e, he, f, hf, h | h⟩ := h
  · have := h2 f hf
    rw [h, neg_n] at this
    exact h1 e he this
  · have := h1 e he
    rw [h, neg_n] at this
    exact h2 f hf this
end
end Go.SX
