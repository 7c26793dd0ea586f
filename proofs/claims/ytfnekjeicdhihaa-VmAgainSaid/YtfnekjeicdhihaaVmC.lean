/- The run of package vm: a turn, whatever the instruction. -/
import Derived.Test.YtfnekjeicdhihaaVmK1
import Derived.Test.YtfnekjeicdhihaaVmK2
import Derived.Test.YtfnekjeicdhihaaVmK3
import Derived.Test.YtfnekjeicdhihaaVmK4
namespace Go.Proofs.Ytfnekjeicdhihaa
open Go.SX

theorem okA_all (b : Bool) : okA b (outA b) = true := by
  cases b
  · exact okA_false
  · exact okA_true
theorem okB_all (b : Bool) {op : Int} (h1 : 1 ≤ op) (h2 : op ≤ 24) : okB b op (outB b op) = true := by
  have : op = 1 ∨ op = 2 ∨ op = 3 ∨ op = 4 ∨ op = 5 ∨ op = 6 ∨ op = 7 ∨ op = 8 ∨ op = 9 ∨ op = 10 ∨ op = 11 ∨ op = 12 ∨ op = 13 ∨ op = 14 ∨ op = 15 ∨ op = 16 ∨ op = 17 ∨ op = 18 ∨ op = 19 ∨ op = 20 ∨ op = 21 ∨ op = 22 ∨ op = 23 ∨ op = 24 := by omega
  cases b
  · rcases this with rfl | rfl | rfl | rfl | rfl | rfl | rfl | rfl | rfl | rfl | rfl | rfl | rfl | rfl | rfl | rfl | rfl | rfl | rfl | rfl | rfl | rfl | rfl | rfl
    · exact okB_false_1
    · exact okB_false_2
    · exact okB_false_3
    · exact okB_false_4
    · exact okB_false_5
    · exact okB_false_6
    · exact okB_false_7
    · exact okB_false_8
    · exact okB_false_9
    · exact okB_false_10
    · exact okB_false_11
    · exact okB_false_12
    · exact okB_false_13
    · exact okB_false_14
    · exact okB_false_15
    · exact okB_false_16
    · exact okB_false_17
    · exact okB_false_18
    · exact okB_false_19
    · exact okB_false_20
    · exact okB_false_21
    · exact okB_false_22
    · exact okB_false_23
    · exact okB_false_24
  · rcases this with rfl | rfl | rfl | rfl | rfl | rfl | rfl | rfl | rfl | rfl | rfl | rfl | rfl | rfl | rfl | rfl | rfl | rfl | rfl | rfl | rfl | rfl | rfl | rfl
    · exact okB_true_1
    · exact okB_true_2
    · exact okB_true_3
    · exact okB_true_4
    · exact okB_true_5
    · exact okB_true_6
    · exact okB_true_7
    · exact okB_true_8
    · exact okB_true_9
    · exact okB_true_10
    · exact okB_true_11
    · exact okB_true_12
    · exact okB_true_13
    · exact okB_true_14
    · exact okB_true_15
    · exact okB_true_16
    · exact okB_true_17
    · exact okB_true_18
    · exact okB_true_19
    · exact okB_true_20
    · exact okB_true_21
    · exact okB_true_22
    · exact okB_true_23
    · exact okB_true_24

theorem ite_one {c : Prop} [Decidable c] : (if c then (1 : Int) else 0) ≠ 0 ↔ c := by by_cases h : c <;> simp [h]
theorem ite_zero {c : Prop} [Decidable c] : (if c then (1 : Int) else 0) = 0 ↔ ¬ c := by by_cases h : c <;> simp [h]
/-- An instruction that may stand in an extension. -/
def OkIns (f : Nat → Int) : Prop := (1 ≤ f 0 ∧ f 0 ≤ 24) ∧ (0 ≤ f 1 ∧ f 1 < 10) ∧ (0 ≤ f 2 ∧ f 2 < 10) ∧ (-32768 ≤ f 3 ∧ f 3 ≤ 32767) ∧ 0 ≤ f 4 ∧ (19 ≤ f 0 → f 0 ≤ 22 → 0 ≤ f 3)
structure Inv (b : Bool) (ρ : Env) : Prop where
  at0 : 0 ≤ ρ.iv 4
  atM : ρ.iv 4 ≤ 40000
  len : ρ.iv 1 ≤ 300
  c0 : 0 ≤ ρ.iv 9
  cA : ρ.iv 9 ≤ ρ.iv 4
  cb : b = false → ρ.iv 9 = 0
  ins : ∀ r, 0 ≤ r → r < ρ.iv 1 → OkIns (ρ.av 3 r)
/-- The instruction at hand is looked at, and At is told. -/
def fetch (ρ : Env) : Env := { ρ with iv := fun i => if i = 7 then ρ.iv 4 else if i = 10 then ρ.av 3 (ρ.iv 4) 1 else if i = 11 then ρ.av 3 (ρ.iv 4) 2 else if i = 12 then ρ.av 3 (ρ.iv 4) 3 else if i = 13 then ρ.av 3 (ρ.iv 4) 4 else ρ.iv i }
def tells (ρ : Env) : Env := { ρ with iv := fun i => if i = 7 then ρ.iv 4 else ρ.iv i }
/-- A way on from here. -/
def Way (b : Bool) (ρ : Env) (r : Res) : Prop := ∃ l o, outB b (ρ.av 3 (ρ.iv 4) 0) = some l ∧ o ∈ l ∧ resOf o = some r ∧ PC (fetch ρ) (pcOf o)

theorem pcI_ok {b : Bool} {ρ : Env} (h : Inv b ρ) : PC ρ pcI := by
  have h1 := h.at0
  have h2 := h.atM
  have h3 := h.c0
  have h4 := h.cA
  intro e he
  simp only [pcI, List.mem_cons, List.not_mem_nil, or_false] at he
  rcases he with rfl | rfl | rfl <;> simp only [E.n_bi, E.n_c, E.n_v, O.den, ite_one] <;> omega
theorem pcB_ok {b : Bool} {ρ : Env} (h : Inv b ρ) (hlt : ρ.iv 4 < ρ.iv 1) : PC (fetch ρ) pcB := by
  have h1 := h.at0
  have h2 := h.atM
  have h3 := h.c0
  have h4 := h.cA
  obtain ⟨_, h5, h6, _, h7, _⟩ := h.ins _ h1 hlt
  intro e he
  simp only [pcB, pcI, List.cons_append, List.nil_append, List.mem_cons, List.not_mem_nil, or_false] at he
  rcases he with rfl | rfl | rfl | rfl | rfl | rfl | rfl | rfl | rfl <;> simp only [E.n_bi, E.n_c, E.n_v, O.den, fetch, ite_one] <;> simp <;> omega

section
variable {ρ : Env} {W0 : World} {σ : Sig} {b : Bool} {w : World}
theorem plain_env {iv av : List (Nat × E)} (h : plain iv av = true) : envOf iv av ρ = ρ := by
  simp only [plain, Bool.and_eq_true, List.all_eq_true, decide_eq_true_eq] at h
  have h1 : ∀ i, lk iv i (.v i) = .v i := fun i => by
    unfold lk; split
    · rename_i p hp
      have := List.find?_some hp
      rw [h.1 p (List.mem_of_find?_eq_some hp), eq_of_beq this]
    · rfl
  have h2 : ∀ i, lk av i (.av i) = .av i := fun i => by
    unfold lk; split
    · rename_i p hp
      have := List.find?_some hp
      rw [h.2 p (List.mem_of_find?_eq_some hp), eq_of_beq this]
    · rfl
  simp only [envOf, h1, h2]; rfl
theorem plain7_env {iv av : List (Nat × E)} (h : plain7 iv av = true) : envOf iv av ρ = tells ρ := by
  simp only [plain7, Bool.and_eq_true, List.all_eq_true, decide_eq_true_eq] at h
  have h1 : ∀ i, lk iv i (.v i) = if i = 7 then .v 4 else .v i := fun i => by
    by_cases hi : i = 7
    · subst hi; simpa using h.1.2
    · rw [if_neg hi]
      unfold lk; split
      · rename_i p hp
        have := List.find?_some hp
        have := eq_of_beq this
        have h3 := h.1.1 p (List.mem_of_find?_eq_some hp)
        rw [if_neg (by rw [this]; exact hi)] at h3
        simpa [this] using h3
      · rfl
  have h2 : ∀ i, lk av i (.av i) = .av i := fun i => by
    unfold lk; split
    · rename_i p hp
      have := List.find?_some hp
      rw [h.2 p (List.mem_of_find?_eq_some hp), eq_of_beq this]
    · rfl
  simp only [envOf, h1, h2, tells]
  congr 1
  funext i
  split <;> rfl
/-- The run and the box that leads to it stay where they are. -/
def Stay (σ σ' : Sig) : Prop := σ'[0]? = σ[0]? ∧ σ'[1]? = σ[1]?
theorem Stay.trans {σ σ' σ'' : Sig} (h : Stay σ σ') (h' : Stay σ' σ'') : Stay σ σ'' := ⟨h'.1.trans h.1, h'.2.trans h.2⟩
theorem stay_more (τ : Sig) (h : 2 ≤ σ.length) : Stay σ (σ ++ τ) := ⟨List.getElem?_append_left (by omega), List.getElem?_append_left (by omega)⟩
theorem mt_facts {tm0 tm : TM} {s0 s : S} {θ : Sub} (h : mt tm0 s0 tm s = some θ) : θ.ok = true ∧ θ.nx = s.nx ∧ θ.n0 = s0.nx := by
  simp only [SX.mt] at h
  split at h
  · rename_i hc
    simp only [Option.some.injEq] at h
    rw [h] at hc
    rw [Bool.and_eq_true] at hc
    have hc1 := hc.1
    simp only [chkS, Bool.and_eq_true, beq_iff_eq] at hc1
    exact ⟨hc1.1.1.1.1.1.1, hc1.1.1.1.1.2, hc1.1.1.1.1.1.2⟩
  · cases h
theorem mtb_ok {tm0 tm : TM} {s : S} {p : Bool × Sub} {a : Act} (h : mtb tm0 tm s = some p) (g : Gam ρ W0 σ s w) (hf : FR ρ σ tm a) : Gam (envOf p.2.iv p.2.av ρ) W0 (p.2.sig σ) (sT p.1 (.av 3) []) w ∧ FR (envOf p.2.iv p.2.av ρ) (p.2.sig σ) tm0 a ∧ Stay σ (p.2.sig σ) := by
  unfold mtb at h
  have hnil : ∀ ρ : Env, PC ρ [] := fun ρ e he => nomatch he
  have key : ∀ b θ, mt tm0 (sT b (.av 3) []) tm s = some θ → θ.id 0 = 0 ∧ θ.id 1 = 1 → p = (b, θ) → Gam (envOf p.2.iv p.2.av ρ) W0 (p.2.sig σ) (sT p.1 (.av 3) []) w ∧ FR (envOf p.2.iv p.2.av ρ) (p.2.sig σ) tm0 a ∧ Stay σ (p.2.sig σ) := by
    rintro b θ hm ⟨h0, h1⟩ rfl
    obtain ⟨h3, h4⟩ := mt_ok hm g hf (hnil _)
    obtain ⟨f1, f2, f3⟩ := mt_facts hm
    exact ⟨h3, h4, by rw [Sub.sig_get f1 (by rw [g.len, f2]), h0], by rw [Sub.sig_get f1 (by rw [g.len, f2]), h1]⟩
  split at h
  · rename_i θ hm
    split at h
    · rename_i hc; cases h; exact key _ _ hm hc rfl
    · cases h
  · split at h
    · rename_i θ hm
      split at h
      · rename_i hc; cases h; exact key _ _ hm hc rfl
      · cases h
    · cases h
theorem mtb_gam {s : S} {p : Bool × Sub} (h : mtb [] [] s = some p) (g : Gam ρ W0 σ s w) : Gam (envOf p.2.iv p.2.av ρ) W0 (p.2.sig σ) (sT p.1 (.av 3) []) w ∧ Stay σ (p.2.sig σ) :=
  have := mtb_ok (a := ⟨#[], []⟩) h g ⟨rfl, fun i v hi => by simp at hi⟩
  ⟨this.1, this.2.2⟩

/-! ### From one part of a turn to the other -/
theorem insA_a (h : ρ.iv 4 = (fetch ρ).iv 4) : (insA (ρ.av 3 (ρ.iv 4) 0)).a (fetch ρ) = ρ.av 3 := by
  funext r k
  have e4 : (fetch ρ).iv 4 = ρ.iv 4 := h.symm
  have e3 : (fetch ρ).av 3 = ρ.av 3 := rfl
  simp only [insA, E.a_set, E.n_v, E.n_c, E.a_av, e4, e3]
  have v10 : (fetch ρ).iv 10 = ρ.av 3 (ρ.iv 4) 1 := rfl
  have v11 : (fetch ρ).iv 11 = ρ.av 3 (ρ.iv 4) 2 := rfl
  have v12 : (fetch ρ).iv 12 = ρ.av 3 (ρ.iv 4) 3 := rfl
  have v13 : (fetch ρ).iv 13 = ρ.av 3 (ρ.iv 4) 4 := rfl
  rw [v10, v11, v12, v13]
  by_cases hr : r = ρ.iv 4
  · subst hr
    rcases Nat.lt_or_ge k 5 with hk | hk
    · rcases k with _ | _ | _ | _ | _ | k <;> first | simp | omega
    · simp [show k ≠ 0 by omega, show k ≠ 1 by omega, show k ≠ 2 by omega, show k ≠ 3 by omega, show k ≠ 4 by omega]
  · simp [hr]
def segB (op : Int) : List V → List V
  | [.arr (.av 3) ks n] => [.arr (insA op) ks n]
  | l => l
theorem toB (hI : Inv b ρ) (hlt : ρ.iv 4 < ρ.iv 1) (g : Gam (tells ρ) W0 σ (sT b (.av 3) []) w) : Gam (fetch ρ) W0 σ (sT b (insA (ρ.av 3 (ρ.iv 4) 0)) pcB) w := by
  have := g.reenv (ρ' := fetch ρ) (pc := pcB) (segB (ρ.av 3 (ρ.iv 4) 0)) (fun c hc => by
    have hA := insA_a (ρ := ρ) rfl
    cases b
    · simp only [sT, tmplH, Bool.false_eq_true, if_false, List.append_nil, List.mem_cons, List.not_mem_nil, or_false] at hc
      rcases hc with rfl | rfl | rfl | rfl | rfl <;> first | rfl | skip
      simp only [segB, cellsL, V.cells, natOf, E.n_v, hA]
      rfl
    · simp only [sT, tmplH, if_true, List.cons_append, List.nil_append, List.mem_cons, List.not_mem_nil, or_false] at hc
      rcases hc with rfl | rfl | rfl | rfl | rfl | rfl <;> first | rfl | skip
      simp only [segB, cellsL, V.cells, natOf, E.n_v, hA]
      rfl) (pcB_ok hI hlt)
  have he : (sT b (insA (ρ.av 3 (ρ.iv 4) 0)) pcB) = ⟨pcB, (sT b (.av 3) []).nx, (sT b (.av 3) []).H.map fun c => { c with segs := segB (ρ.av 3 (ρ.iv 4) 0) c.segs }⟩ := by cases b <;> rfl
  rw [he]; exact this
theorem toT (g : Gam (tells ρ) W0 σ (sT b (.av 3) []) w) : Gam (fetch ρ) W0 σ (sT b (.av 3) []) w := by
  have := g.reenv (ρ' := fetch ρ) (pc := []) id (fun c hc => by
    cases b
    · simp only [sT, tmplH, Bool.false_eq_true, if_false, List.append_nil, List.mem_cons, List.not_mem_nil, or_false] at hc
      rcases hc with rfl | rfl | rfl | rfl | rfl <;> rfl
    · simp only [sT, tmplH, if_true, List.cons_append, List.nil_append, List.mem_cons, List.not_mem_nil, or_false] at hc
      rcases hc with rfl | rfl | rfl | rfl | rfl | rfl <;> rfl) (fun e he => nomatch he)
  have he : (sT b (.av 3) []) = ⟨[], (sT b (.av 3) []).nx, (sT b (.av 3) []).H.map fun c => { c with segs := id c.segs }⟩ := by cases b <;> rfl
  rw [he]; exact this
theorem toF {a : Act} (hf : FR (tells ρ) σ tmT a) : FR (fetch ρ) σ tmT a := by
  refine ⟨hf.1, fun i v hi => ?_⟩
  rw [← hf.2 i v hi]
  rcases i with _ | _ | _ | i
  · simp [tmT] at hi
  · simp [tmT] at hi; subst hi; rfl
  · simp [tmT] at hi; subst hi; rfl
  · have : (tmT[i + 3]? : Option (Option V)) = (List.replicate 76 none)[i]? := rfl
    rw [this, List.getElem?_replicate] at hi
    split at hi <;> cases hi

theorem PC_mem {s : List E} {e : E} (h : PC ρ s) (he : e ∈ s) : e.n ρ ≠ 0 := h e he
/-- **A turn.** -/
theorem turn {Q : Exit → Act → World → Prop} {a : Act} (hI : Inv b ρ) (g : Gam ρ W0 σ (sT b (.av 3) []) w) (hf : FR ρ σ tmT a)
    (hX : ρ.iv 14 ≠ 0 → ∀ a' w' σ', a'.defers = a.defers → Stay σ σ' → Gam ρ W0 σ' (sT b (.av 3) []) w' → FR ρ σ' tmT a' → Q (.exit 0) a' w')
    (hJ : ρ.iv 14 = 0 → ρ.iv 1 ≤ ρ.iv 4 → ∀ a' w' σ', a'.defers = a.defers → Stay σ σ' → Gam (fetch ρ) W0 σ' (sT b (.av 3) []) w' → Q (.panic [{ v := .iface 75 (.agg #[.int .i64 1]), recovered := false }]) a' w')
    (hN : ρ.iv 14 = 0 → ρ.iv 4 < ρ.iv 1 → ∀ b' iv av, Way b ρ (.next b' iv av) → ∀ a' w' σ', a'.defers = a.defers → Stay σ σ' → Gam (envOf iv av (fetch ρ)) W0 σ' (sT b' (.av 3) []) w' → FR (envOf iv av (fetch ρ)) σ' tmT a' → Q .normal a' w')
    (hH : ρ.iv 14 = 0 → ρ.iv 4 < ρ.iv 1 → ∀ n b' iv av, Way b ρ (.halt n b' iv av) → ∀ a' w' σ', a'.defers = a.defers → Stay σ σ' → Gam (envOf iv av (fetch ρ)) W0 σ' (sT b' (.av 3) []) w' → Q (.panic [{ v := .iface 75 (.agg #[.int .i64 n]), recovered := false }]) a' w') :
    goesLoop.wp Try.prog Q a w := by
  rw [goesLoop_eq]
  have hA := okA_all b
  unfold okA at hA
  split at hA
  · rename_i l hl
    rw [List.all_eq_true] at hA
    have h2s : 2 ≤ σ.length := by rw [g.len]; simp [sT]
    have g1 : Gam ρ W0 σ (sT b (.av 3) pcI) w := g.withPc (pcI_ok hI)
    refine sxb_ok (K := noK) (noK_ok _) named_ok mixed_ok hl (fun s hs => by have := hA _ hs; simp [okA1] at this) g1 hf (fun a' w' hs => ?_) (fun e a' w' he hs => ?_)
    · obtain ⟨hd, tm, s, τ, hm, g2, f2⟩ := hs
      have hk := hA _ hm
      simp only [okA1, Bool.and_eq_true, decide_eq_true_eq] at hk
      obtain ⟨⟨hk1, hk2⟩, hk3⟩ := hk
      have hlt : ρ.iv 4 < ρ.iv 1 := by
        have := g2.pc _ hk2
        simp only [E.n_bi, E.n_v, O.den] at this
        exact lt_of this
      have h14 : ρ.iv 14 = 0 := by
        have := g2.pc _ hk3
        simp only [E.n_un, E.n_v, U.den] at this
        exact ite_one.1 this
      split at hk1
      · rename_i b' θ hθ
        simp only [Bool.and_eq_true, beq_iff_eq] at hk1
        obtain ⟨rfl, hp7⟩ := hk1
        obtain ⟨g3, f3, st3⟩ := mtb_ok hθ g2 f2
        dsimp only at g3 f3
        rw [plain7_env hp7] at g3 f3
        have hop := hI.ins _ hI.at0 hlt
        have hB := okB_all b' hop.1.1 hop.1.2
        unfold okB at hB
        split at hB
        · rename_i m hm
          simp only [Bool.and_eq_true, List.all_eq_true] at hB
          refine wp_mono (sx_ok (K := noK) noK_ok named_ok mixed_ok 200 codeB tmT _ m hm (fetch ρ) (fun s hs => ?_) W0 _ a' w' (toB hI hlt g3) (toF f3)) fun e a'' w'' hs => ?_
          · have := hB.1 _ hs
            simp [okO, resOf] at this
          · cases e with
            | normal =>
              obtain ⟨hd2, tm2, s2, τ2, hm2, g4, f4⟩ := hs
              have hk := hB.1 _ hm2
              simp only [okO, Bool.and_eq_true] at hk
              split at hk
              · rename_i r hr
                have hr0 := hr
                simp only [resOf, Option.map_eq_some_iff] at hr
                obtain ⟨p, hp, rfl⟩ := hr
                obtain ⟨g5, f5, st5⟩ := mtb_ok hp g4 f4
                exact hN h14 hlt _ _ _ ⟨m, _, hm, hm2, hr0, g4.pc⟩ _ _ _ (hd2.trans hd) ((((stay_more _ h2s).trans st3).trans (stay_more _ (by rw [g3.len]; simp [sT]))).trans st5) g5 f5
              · simp at hk
            | exit id =>
              obtain ⟨hd2, tm2, s2, τ2, hm2, g4, f4⟩ := hs
              have := hB.1 _ hm2
              simp [okO, resOf] at this
            | goto l =>
              obtain ⟨hd2, tm2, s2, τ2, hm2, g4, f4⟩ := hs
              have := hB.1 _ hm2
              simp [okO, resOf] at this
            | ret =>
              obtain ⟨hd2, tm2, s2, τ2, hm2, g4, f4⟩ := hs
              have := hB.1 _ hm2
              simp [okO, resOf] at this
            | panic ch =>
              obtain ⟨hd2, v, s2, τ2, x, hm2, g4, hv, rfl⟩ := hs
              have hk := hB.1 _ hm2
              simp only [okO, Bool.and_eq_true] at hk
              split at hk
              · rename_i r hr
                have hr0 := hr
                unfold resOf at hr
                split at hr
                · cases ‹Out.pan v s2 = _›
                · rename_i n s3 he
                  cases he
                  simp only [Option.map_eq_some_iff] at hr
                  obtain ⟨p, hp, rfl⟩ := hr
                  obtain ⟨g5, st5⟩ := mtb_gam hp g4
                  simp only [V.val, cellsL, V.cells, E.n_c, Option.map_some, List.append_nil, List.cons_append, List.nil_append, Option.some.injEq] at hv
                  subst hv
                  exact hH h14 hlt _ _ _ _ ⟨m, _, hm, hm2, hr0, g4.pc⟩ _ _ _ (hd2.trans hd) ((((stay_more _ h2s).trans st3).trans (stay_more _ (by rw [g3.len]; simp [sT]))).trans st5) g5
                · cases hr
              · simp at hk
            | outgrown => exact hs.elim
        · cases hB
      · simp at hk1
    · cases e with
      | normal => exact absurd rfl he
      | exit id =>
        obtain ⟨hd, tm, s, τ, hm, g2, f2⟩ := hs
        have hk := hA _ hm
        simp only [okA1, Bool.and_eq_true, decide_eq_true_eq, beq_iff_eq] at hk
        obtain ⟨⟨hk1, rfl⟩, hk3⟩ := hk
        have h14 : ρ.iv 14 ≠ 0 := g2.pc _ hk3
        split at hk1
        · rename_i b' θ hθ
          simp only [Bool.and_eq_true, beq_iff_eq] at hk1
          obtain ⟨rfl, hp⟩ := hk1
          obtain ⟨g3, f3, st3⟩ := mtb_ok hθ g2 f2
          dsimp only at g3 f3
          rw [plain_env hp] at g3 f3
          have := hX h14 a' w' _ hd ((stay_more _ h2s).trans st3) g3 f3
          exact ⟨this, by simpa [Exit.inBlock] using this⟩
        · simp at hk1
      | goto l =>
        obtain ⟨hd, tm, s, τ, hm, g2, f2⟩ := hs
        have hk := hA _ hm
        simp [okA1] at hk
      | ret =>
        obtain ⟨hd, tm, s, τ, hm, g2, f2⟩ := hs
        have hk := hA _ hm
        simp [okA1] at hk
      | panic ch =>
        obtain ⟨hd, v, s, τ, x, hm, g2, hv, rfl⟩ := hs
        have hk := hA _ hm
        unfold okA1 at hk
        split at hk
        · cases ‹Out.pan v s = _›
        · cases ‹Out.pan v s = _›
        · rename_i n s3 he
          cases he
          simp only [Bool.and_eq_true, decide_eq_true_eq] at hk
          obtain ⟨⟨⟨hk1, rfl⟩, hk2⟩, hk3⟩ := hk
          have hge : ρ.iv 1 ≤ ρ.iv 4 := by
            have := g2.pc _ hk2
            simp only [E.n_un, E.n_bi, E.n_v, U.den, O.den, ite_one, ite_zero] at this
            omega
          have h14 : ρ.iv 14 = 0 := by
            have := g2.pc _ hk3
            simp only [E.n_un, E.n_v, U.den] at this
            exact ite_one.1 this
          split at hk1
          · rename_i b' θ hθ
            simp only [Bool.and_eq_true, beq_iff_eq] at hk1
            obtain ⟨rfl, hp7⟩ := hk1
            obtain ⟨g3, st3⟩ := mtb_gam hθ g2
            dsimp only at g3
            rw [plain7_env hp7] at g3
            simp only [V.val, cellsL, V.cells, E.n_c, Option.map_some, List.append_nil, List.cons_append, List.nil_append, Option.some.injEq] at hv
            subst hv
            have := hJ h14 hge a' w' _ hd ((stay_more _ h2s).trans st3) (toT g3)
            exact ⟨this, this⟩
          · simp at hk1
        · cases hk
      | outgrown => exact hs.elim
  · cases hA
end
end Go.Proofs.Ytfnekjeicdhihaa
