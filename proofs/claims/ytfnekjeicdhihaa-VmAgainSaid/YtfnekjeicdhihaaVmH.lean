/- code.Check: its contract. -/
import Derived.Test.YtfnekjeicdhihaaVmL1
import Derived.Test.YtfnekjeicdhihaaVmL2
import Derived.ScopeJumps
namespace Go.Proofs.Ytfnekjeicdhihaa
open Go.SX

theorem okK_all {op : Int} (h1 : 1 ≤ op) (h2 : op ≤ 24) : okK op (outK (.c op) []) = true := by
  have : op = 1 ∨ op = 2 ∨ op = 3 ∨ op = 4 ∨ op = 5 ∨ op = 6 ∨ op = 7 ∨ op = 8 ∨ op = 9 ∨ op = 10 ∨ op = 11 ∨ op = 12 ∨ op = 13 ∨ op = 14 ∨ op = 15 ∨ op = 16 ∨ op = 17 ∨ op = 18 ∨ op = 19 ∨ op = 20 ∨ op = 21 ∨ op = 22 ∨ op = 23 ∨ op = 24 := by omega
  rcases this with rfl | rfl | rfl | rfl | rfl | rfl | rfl | rfl | rfl | rfl | rfl | rfl | rfl | rfl | rfl | rfl | rfl | rfl | rfl | rfl | rfl | rfl | rfl | rfl
  · exact okK_1
  · exact okK_2
  · exact okK_3
  · exact okK_4
  · exact okK_5
  · exact okK_6
  · exact okK_7
  · exact okK_8
  · exact okK_9
  · exact okK_10
  · exact okK_11
  · exact okK_12
  · exact okK_13
  · exact okK_14
  · exact okK_15
  · exact okK_16
  · exact okK_17
  · exact okK_18
  · exact okK_19
  · exact okK_20
  · exact okK_21
  · exact okK_22
  · exact okK_23
  · exact okK_24

/-- Instruction number r is looked at. -/
def atK (ρ : Env) (r : Int) : Env := { ρ with iv := fun i => if i = 30 then ρ.av 3 r 0 else if i = 31 then ρ.av 3 r 1 else if i = 32 then ρ.av 3 r 2 else if i = 33 then ρ.av 3 r 3 else if i = 34 then ρ.av 3 r 4 else if i = 36 then r else ρ.iv i }
/-- Instruction number r may be. -/
def MayP (ρ : Env) (r : Int) : Prop := 1 ≤ ρ.av 3 r 0 ∧ ρ.av 3 r 0 ≤ 24 ∧ ∀ c ∈ conj (ρ.av 3 r 0), c.n (atK ρ r) ≠ 0
def AllP (ρ : Env) : Prop := ∀ r, 0 ≤ r → r < ρ.iv 1 → MayP ρ r
/-- What Check tells. -/
def ChkR (ρ : Env) (n : Int) : Prop := (n = 2 ∧ (ρ.iv 0 < 0 ∨ 256 < ρ.iv 0 ∨ ¬ AllP ρ)) ∨ (n = 3 ∧ 0 ≤ ρ.iv 0 ∧ ρ.iv 0 ≤ 256 ∧ AllP ρ ∧ 256 < ρ.iv 1) ∨ (n = 0 ∧ 0 ≤ ρ.iv 0 ∧ ρ.iv 0 ≤ 256 ∧ AllP ρ ∧ ρ.iv 1 ≤ 256)
theorem ChkR.one {ρ : Env} {n m : Int} (h : ChkR ρ n) (h' : ChkR ρ m) : n = m := by
  rcases h with ⟨rfl, h⟩ | ⟨rfl, h1, h2, h3, h4⟩ | ⟨rfl, h1, h2, h3, h4⟩ <;> rcases h' with ⟨rfl, h'⟩ | ⟨rfl, h1', h2', h3', h4'⟩ | ⟨rfl, h1', h2', h3', h4'⟩
  all_goals first | rfl | omega | skip
  · rcases h with h | h | h <;> first | omega | exact absurd h3' h
  · rcases h with h | h | h <;> first | omega | exact absurd h3' h
  · rcases h' with h' | h' | h' <;> first | omega | exact absurd h3 h'
  · rcases h' with h' | h' | h' <;> first | omega | exact absurd h3 h'

/-- As rho, but for what the loop counts. -/
structure Near (ρ ρ' : Env) (r : Int) : Prop where
  iv : ∀ i, i < 30 → ρ'.iv i = ρ.iv i
  av : ρ'.av = ρ.av
  ov : ρ'.ov = ρ.ov
  at' : ρ'.iv 36 = r

theorem one_ne {c : Prop} [Decidable c] : (if c then (1 : Int) else 0) ≠ 0 ↔ c := by by_cases h : c <;> simp [h]

section
variable {ρ : Env} {W0 : World} {σ : Sig} {w : World}
theorem pcK_ok {r : Int} (h0 : 0 ≤ r) (h1 : r < ρ.iv 1) : PC (atK ρ r) pcK := by
  intro e he
  simp only [pcK, List.mem_cons, List.not_mem_nil, or_false] at he
  rcases he with rfl | rfl
  · simp only [E.n_bi, E.n_c, E.n_v, O.den]; exact one_ne.2 h0
  · simp only [E.n_bi, E.n_c, E.n_v, O.den]; exact one_ne.2 h1
theorem insE_a {op : E} {r : Int} (hop : op.n (atK ρ r) = ρ.av 3 r 0) : (insE op).a (atK ρ r) = ρ.av 3 := by
  funext q k
  have e36 : (atK ρ r).iv 36 = r := rfl
  have e3 : (atK ρ r).av 3 = ρ.av 3 := rfl
  have v31 : (atK ρ r).iv 31 = ρ.av 3 r 1 := rfl
  have v32 : (atK ρ r).iv 32 = ρ.av 3 r 2 := rfl
  have v33 : (atK ρ r).iv 33 = ρ.av 3 r 3 := rfl
  have v34 : (atK ρ r).iv 34 = ρ.av 3 r 4 := rfl
  simp only [insE, E.a_set, E.n_v, E.a_av, e36, e3, v31, v32, v33, v34, hop]
  by_cases hr : q = r
  · subst hr
    rcases Nat.lt_or_ge k 5 with hk | hk
    · rcases k with _ | _ | _ | _ | _ | k <;> first | simp | omega
    · simp [show k ≠ 0 by omega, show k ≠ 1 by omega, show k ≠ 2 by omega, show k ≠ 3 by omega, show k ≠ 4 by omega]
  · simp [hr]
def segK (op : E) : List V → List V
  | [.arr (.av 3) ks n] => [.arr (insE op) ks n]
  | l => l
theorem toK {op : E} {r : Int} {pc : List E} (hop : op.n (atK ρ r) = ρ.av 3 r 0) (hp : PC (atK ρ r) pc) {ρ' : Env} (hn : Near ρ ρ' r) (g : Gam ρ' W0 σ (sK (.av 3) []) w) : Gam (atK ρ r) W0 σ (sK (insE op) pc) w := by
  have := g.reenv (ρ' := atK ρ r) (pc := pc) (segK op) (fun c hc => by
    have hA := insE_a hop
    have e0 : ρ'.iv 0 = ρ.iv 0 := hn.iv 0 (by omega)
    have e1 : ρ'.iv 1 = ρ.iv 1 := hn.iv 1 (by omega)
    have f0 : (atK ρ r).iv 0 = ρ.iv 0 := rfl
    have f1 : (atK ρ r).iv 1 = ρ.iv 1 := rfl
    have fo : (atK ρ r).ov = ρ.ov := rfl
    simp only [sK, List.mem_cons, List.not_mem_nil, or_false] at hc
    rcases hc with rfl | rfl
    · simp only [segK, cellsL, V.cells, E.n_v, e0, f0, msOf, fo, hn.ov, e1, f1]
    · simp only [segK, cellsL, V.cells, natOf, E.n_v, hA, e1, f1, E.a_av, hn.av]) hp
  exact this
theorem toKF {r : Int} {ρ' : Env} (hn : Near ρ ρ' r) {a : Act} (hf : FR ρ' σ tmKL a) : FR (atK ρ r) σ tmKL a := by
  refine ⟨hf.1, fun i v hi => ?_⟩
  rw [← hf.2 i v hi]
  have e1 : ρ'.iv 1 = ρ.iv 1 := hn.iv 1 (by omega)
  have f1 : (atK ρ r).iv 1 = ρ.iv 1 := rfl
  have fo : (atK ρ r).ov = ρ.ov := rfl
  have f36 : (atK ρ r).iv 36 = r := rfl
  have hlt : i < 29 := (List.getElem?_eq_some_iff.1 hi).1
  have hcase : v = .ptr 1 0 0 (.c 0) ∨ v = .int .i64 (.c 2) ∨ v = .ms 0 0 (.v 1) ∨ v = .int .i64 (.v 1) ∨ v = .int .i64 (.v 36) := by
    have : ∀ i, i < 29 → ∀ v, tmKL[i]? = some (some v) → v = .ptr 1 0 0 (.c 0) ∨ v = .int .i64 (.c 2) ∨ v = .ms 0 0 (.v 1) ∨ v = .int .i64 (.v 1) ∨ v = .int .i64 (.v 36) := by
      intro i hi v hv
      have hmem := List.mem_of_getElem? hv
      simp [tmKL] at hmem
      rcases hmem with h | h | h | h | h <;> subst h <;> simp
    exact this i hlt v hi
  rcases hcase with rfl | rfl | rfl | rfl | rfl
  · rfl
  · rfl
  · simp only [V.val, msOf, E.n_v, e1, f1, fo, hn.ov]
  · simp only [V.val, E.n_v, e1, f1]
  · simp only [V.val, E.n_v, f36, hn.at']

theorem way_fails {op : Int} {pc : List E} (h : (pc.any fun e => (conj op).any fun c => decide (e = neg c) || decide (e = .un .not c)) = true) (hp : PC ρ pc) : ∃ c ∈ conj op, c.n ρ = 0 := by
  simp only [List.any_eq_true, Bool.or_eq_true, decide_eq_true_eq] at h
  obtain ⟨e, he, c, hc, h | h⟩ := h
  · exact ⟨c, hc, (neg_n ρ c).1 (by rw [← h]; exact hp e he)⟩
  · refine ⟨c, hc, ?_⟩
    have := hp e he
    rw [h] at this
    simp only [E.n_un, U.den] at this
    exact one_ne.1 this

theorem okE_turn {Q : Exit → Act → World → Prop} {a : Act} {r : Int} {ρ' : Env} (hge : ρ.iv 1 ≤ r) (hn : Near ρ ρ' r) (g : Gam ρ' W0 σ (sK (.av 3) []) w) (hf : FR ρ' σ tmKL a)
    (hX : ∀ a' w' ρ'' σ', a'.defers = a.defers → Near ρ ρ'' r → Gam ρ'' W0 σ' (sK (.av 3) []) w' → FR ρ'' σ' tmKL a' → Q (.exit 0) a' w') : chkLoop.wp Try.prog Q a w := by
  have hk := okE_ok
  unfold okE at hk
  split at hk
  · rename_i l hl
    rw [List.all_eq_true] at hk
    have g1 : Gam ρ' W0 σ (sK (.av 3) [.bi .le (.v 1) (.v 36)]) w := g.withPc (fun e he => by
      simp only [List.mem_cons, List.not_mem_nil, or_false] at he
      subst he
      simp only [E.n_bi, E.n_v, O.den]
      exact one_ne.2 (by rw [hn.at', hn.iv 1 (by omega)]; exact hge))
    refine wp_mono (sx_ok (K := noK) noK_ok (by kernel_rfl) (by kernel_rfl) 200 chkLoop _ _ l hl ρ' (fun s hs => by have := hk _ hs; simp at this) W0 σ _ _ g1 hf) fun e a' w' hs => ?_
    cases e with
    | exit i =>
      obtain ⟨hd, tm, s, τ, hm, g2, f2⟩ := hs
      have := hk _ hm
      simp only [Bool.and_eq_true, beq_iff_eq] at this
      obtain ⟨rfl, this⟩ := this
      split at this
      · rename_i θ hθ
        obtain ⟨g3, f3⟩ := mt_ok hθ g2 f2 (fun e he => nomatch he)
        have hid : θ.env ρ' = ρ' := by
          simp only [idS, Bool.and_eq_true, List.all_eq_true, decide_eq_true_eq] at this
          obtain ⟨⟨⟨h1, h2⟩, h3⟩, h4⟩ := this
          have e1 : ∀ i, lk θ.iv i (.v i) = .v i := fun i => by
            unfold lk; split
            · rename_i p hp
              have h5 := List.find?_some hp
              have h6 := h1 p (List.mem_of_find?_eq_some hp)
              rw [h6, eq_of_beq h5]; rfl
            · rfl
          have e2 : ∀ i, lk θ.av i (.av i) = .av i := fun i => by
            unfold lk; split
            · rename_i p hp
              have h5 := List.find?_some hp
              rw [h3 p (List.mem_of_find?_eq_some hp), eq_of_beq h5]
            · rfl
          simp only [Sub.env, e1, e2]; rfl
        rw [hid] at g3 f3
        exact hX a' w' ρ' _ hd hn g3 f3
      · cases this
    | normal => obtain ⟨hd, tm, s, τ, hm, g2, f2⟩ := hs; have := hk _ hm; simp at this
    | goto l => obtain ⟨hd, tm, s, τ, hm, g2, f2⟩ := hs; have := hk _ hm; simp at this
    | ret => obtain ⟨hd, tm, s, τ, hm, g2, f2⟩ := hs; have := hk _ hm; simp at this
    | panic ch => obtain ⟨hd, v, s, τ, x, hm, g2⟩ := hs; have := hk _ hm; simp at this
    | outgrown => exact hs.elim
  · cases hk
end
end Go.Proofs.Ytfnekjeicdhihaa
