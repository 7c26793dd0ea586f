/- 'goes' as a contract of the executor: it is right. -/
import Derived.Test.YtfnekjeicdhihaaVmN
namespace Go.Proofs.Ytfnekjeicdhihaa
open Go.SX

theorem shapeOf_ok {X : V} {sh : Shape} {b : Option Nat} (h : shapeOf X = some (sh, b)) : X.wide = false ∧ sh.X.wide = false := by
  unfold shapeOf at h
  split at h <;> cases h <;> exact ⟨rfl, rfl⟩
theorem ysOf_ok {Y : V} {ys : YS} {b : Option Nat} (h : ysOf Y = some (ys, b)) : Y.wide = false ∧ ys.Y.wide = false := by
  unfold ysOf at h
  split at h <;> cases h <;> exact ⟨rfl, rfl⟩
/-- What is told ahead of the ends. -/
structure Told (ρ : Env) : Prop where
  inv : ∀ x y n, Inv false (start (rgEnv ρ x y n))
  base : ∀ x y b' ρ', Ends false (start (rgEnv ρ x y (ρ.iv 3))) b' ρ' → Fin ρ b' ρ' ∧ ρ.iv 51 ≠ 0
  some : ρ.iv 51 ≠ 0 → ∃ x y b' ρ', Ends false (start (rgEnv ρ x y (ρ.iv 3))) b' ρ'
theorem more_start (ρ : Env) (x y x' y' : Value) {n : Int} (hn : ρ.iv 3 ≤ n) : More (start (rgEnv ρ x y (ρ.iv 3))) (start (rgEnv ρ x' y' n)) := by
  refine ⟨fun i hi => ?_, rfl, ?_⟩
  · show (if i = 14 then 0 else if i < 3 then ρ.iv i else if i = 3 then n else 0) = (if i = 14 then 0 else if i < 3 then ρ.iv i else if i = 3 then ρ.iv 3 else 0)
    rw [if_neg hi, if_neg hi]
  · exact hn
theorem Told.fin {ρ : Env} (T : Told ρ) (ys : YS) (h47 : 0 ≤ ρ.iv 47) (hk : ys.isMs = true ∨ ρ.iv 51 ≠ 0 ∧ (ρ.iv 49 = 0 ∨ ρ.iv 69 ≤ ρ.iv 3)) (h3 : 0 ≤ ρ.iv 3) {x y : Value} {b' : Bool} {ρ' : Env} (h : Ends false (start (rgEnv ρ x y (ys.n ρ))) b' ρ') : Fin ρ b' ρ' ∧ ρ.iv 51 ≠ 0 := by
  have base : ys.isMs = true → ys.n ρ = ρ.iv 3 := by cases ys <;> simp [YS.isMs, YS.n]
  rcases hk with hk | ⟨h51, hk⟩
  · rw [base hk] at h
    exact T.base x y b' ρ' h
  · obtain ⟨x1, y1, b1, ρ1, h1⟩ := T.some h51
    have hF := (T.base _ _ _ _ h1).1
    have hI := T.inv x1 y1 (ρ.iv 3)
    have h9 : ρ1.iv 9 ≤ (start (rgEnv ρ x1 y1 (ρ.iv 3))).iv 3 := by
      show ρ1.iv 9 ≤ ρ.iv 3
      rcases hk with hk | hk
      · have hb : b1 = false := by
          cases b1
          · rfl
          · exact absurd hk (hF.b.1 rfl)
        rw [(ends_inv h1 hI).2.2.2.2.1 hb]; exact h3
      · rw [← hF.iv 9 (by omega) (by omega)]; exact hk
    have hn : ρ.iv 3 ≤ ys.n ρ := by cases ys <;> simp only [YS.n] <;> omega
    obtain ⟨rfl, hM⟩ := ends_more h1 hI h9 (more_start ρ x1 y1 x y hn) h
    refine ⟨⟨hF.b, fun i hi h3 => ?_, fun i hi => ?_⟩, h51⟩
    · rw [hM.iv i h3]; exact hF.iv i hi h3
    · rw [hM.av]; exact hF.av i hi
theorem k17_ok {ρ : Env} (h2 : 0 ≤ ρ.iv 2) (h3 : 0 ≤ ρ.iv 3) (h47 : 0 ≤ ρ.iv 47) (hrow : ∀ r : Nat, (r : Int) < ρ.iv 47 → ρ.av 5 (ρ.iv 3 + r) 0 = ρ.av 7 r 0) (hT : ρ.iv 50 = 0 → Told ρ) (W0 : World) (vs : List V) (s : S) (l : List COut)
    (h : k17 vs s = some l) (σ : Sig) (w : World) (xs : List Value) (g : Gam ρ W0 σ s w) (hv : valL ρ σ vs = some xs) : Calls Try.prog 17 xs.toArray w (SPC ρ W0 σ l) := by
  unfold k17 at h
  split at h
  case h_2 => cases h
  rename_i rb
  split at h
  case h_2 => cases h
  rename_i ch hch
  split at h
  case isFalse => cases h
  rename_i hcond
  obtain ⟨hown, hfresh, hk50⟩ := hcond
  split at h
  case h_2 => cases h
  rename_i X Y hX2 hY2
  split at h
  case h_2 => cases h
  rename_i sh bo ys dy hsh hys
  split at h
  case isFalse => cases h
  rename_i hknow
  obtain ⟨hfull, hyk, hys3⟩ := hknow
  split at h
  case h_2 => cases h
  rename_i θ hθ
  split at h
  case isFalse => cases h
  rename_i hst
  cases h
  have h50 : ρ.iv 50 = 0 := by
    have := known_n g.pc hk50
    simp only [E.n_bi, E.n_v, E.n_c, O.den] at this
    exact one_ne.1 this
  have T := hT h50
  have hz : sh = .full ∨ ρ.iv 2 = 0 := by
    rcases hfull with hf | hf
    · left; cases sh <;> simp [Shape.isFull] at hf ⊢
    · right
      have := known_n g.pc hf
      simp only [E.n_bi, E.n_v, E.n_c, O.den] at this
      have := one_ne.1 this
      omega
  have hyok : ys.ok ρ := by
    have key : known s.pc (.bi .le (.v 3) (.c 0)) = true → ρ.iv 3 = 0 := fun hk => by
      have := known_n g.pc hk
      simp only [E.n_bi, E.n_v, E.n_c, O.den] at this
      have := one_ne.1 this
      omega
    cases ys <;> first | trivial | exact key hyk
  have hmore : ys.isMs = true ∨ ρ.iv 51 ≠ 0 ∧ (ρ.iv 49 = 0 ∨ ρ.iv 69 ≤ ρ.iv 3) := by
    rcases hys3 with hk | ⟨hk1, hk2⟩
    · exact .inl hk
    · right
      refine ⟨known_n g.pc hk1, ?_⟩
      rcases hk2 with hk | hk
      · left
        have := known_n g.pc hk
        simp only [E.n_un, E.n_v, U.den] at this
        exact one_ne.1 this
      · right
        have := known_n g.pc hk
        simp only [E.n_bi, E.n_v, O.den] at this
        exact one_ne.1 this
  -- the run's address
  simp only [valL] at hv
  split at hv
  case h_2 => cases hv
  rename_i x0 r0 hx0 hr0
  cases hv
  simp only [Option.some.injEq] at hr0
  subst hr0
  -- what 'goes' sees
  have gs := subV g (fun c => c.id == rb || c.id == 2 || c.id == bo.getD 3 || c.id == dy.getD 4) (fun c => c.id == rb)
  have gp : Gam ρ w σ (pickS s rb (bo.getD 3) (dy.getD 4)) w := gs
  have hfr : FR ρ σ [some (.ptr rb 0 0 (.c 0))] { tmps := #[x0], defers := [] } := by
    refine ⟨rfl, fun i v hi => ?_⟩
    rcases i with _ | i
    · simp only [List.getElem?_cons_zero, Option.some.injEq] at hi; subst hi; exact hx0
    · simp at hi
  obtain ⟨g1, f1⟩ := mt_ok hθ gp hfr (fun e he => nomatch he)
  obtain ⟨q1, q2, q3⟩ := mt_facts hθ
  have hl : σ.length = θ.nx := by rw [q2]; exact g.len
  simp only [okStart, Bool.and_eq_true, List.all_cons, List.all_nil, Bool.and_true, decide_eq_true_eq, beq_iff_eq] at hst
  obtain ⟨⟨⟨⟨⟨⟨⟨u0, u1, u2, u3, u47⟩, u4, u5, u6, u7, u8⟩, b0, b1, b2⟩, b3, b4, b5, b7⟩, hid0⟩, hXs⟩, hYs⟩ := hst
  have hXe := V.same_eq _ _ hXs
  have hYe := V.same_eq _ _ hYs
  obtain ⟨hw1, hw2⟩ := shapeOf_ok hsh
  obtain ⟨hwY1, hwY2⟩ := ysOf_ok hys
  obtain ⟨k0', o0', cs0', z1, z2, z3, z4, z5⟩ := g1.ch _ (List.mem_cons_self (a := (sX sh.X sh.cs ys.Y ys.ds).H.head (by simp [sX])))
  obtain ⟨_, _, _, z2, _⟩ := cellsL_cons z2
  obtain ⟨_, _, _, z2, _⟩ := cellsL_cons z2
  obtain ⟨cX, _, zX, z2, _⟩ := cellsL_cons z2
  obtain ⟨cY, _, zY, _, _⟩ := cellsL_cons z2
  rw [V.cells_one _ _ _ hw2] at zX
  rw [V.cells_one _ _ _ hwY2] at zY
  simp only [Option.map_eq_some_iff] at zX zY
  obtain ⟨x, hx, _⟩ := zX
  obtain ⟨y, hy, _⟩ := zY
  have i1 : ∀ i, i ≤ 8 → i ≠ 3 → (rgEnv ρ x y (ys.n ρ)).iv i = (θ.env ρ).iv i := by
    intro i hi hi3
    show (if i < 3 then ρ.iv i else if i = 3 then ys.n ρ else 0) = (lk θ.iv i (.v i)).n ρ
    have : i = 0 ∨ i = 1 ∨ i = 2 ∨ i = 4 ∨ i = 5 ∨ i = 6 ∨ i = 7 ∨ i = 8 := by omega
    rcases this with rfl | rfl | rfl | rfl | rfl | rfl | rfl | rfl
    · rw [u0]; rfl
    · rw [u1]; rfl
    · rw [u2]; rfl
    · rw [u4]; rfl
    · rw [u5]; rfl
    · rw [u6]; rfl
    · rw [u7]; rfl
    · rw [u8]; rfl
  have i2 : ∀ i, i ≤ 5 → (rgEnv ρ x y (ys.n ρ)).av i = (θ.env ρ).av i := by
    intro i hi
    show (if 3 ≤ i ∧ i ≤ 5 then ρ.av i else fun _ _ => 0) = (lk θ.av i (.av i)).a ρ
    have : i = 0 ∨ i = 1 ∨ i = 2 ∨ i = 3 ∨ i = 4 ∨ i = 5 := by omega
    rcases this with rfl | rfl | rfl | rfl | rfl | rfl
    · rw [b0]; rfl
    · rw [b1]; rfl
    · rw [b2]; rfl
    · rw [b3]; rfl
    · rw [b4]; rfl
    · rw [b5]; rfl
  have v2 : (θ.env ρ).iv 2 = ρ.iv 2 := by rw [← i1 2 (by omega) (by omega)]; rfl
  have v3 : (θ.env ρ).iv 3 = ρ.iv 3 := by show (lk θ.iv 3 (.v 3)).n ρ = _; rw [u3]; rfl
  have v47 : (θ.env ρ).iv 47 = ρ.iv 47 := by show (lk θ.iv 47 (.v 47)).n ρ = _; rw [u47]; rfl
  have w5 : (θ.env ρ).av 5 = ρ.av 5 := by show (lk θ.av 5 (.av 5)).a ρ = _; rw [b5]; rfl
  have w7 : (θ.env ρ).av 7 = ρ.av 7 := by show (lk θ.av 7 (.av 7)).a ρ = _; rw [b7]; rfl
  have hysn : ys.n (θ.env ρ) = ys.n ρ := by cases ys <;> simp only [YS.n, v3, v47]
  have hyok' : ys.ok (θ.env ρ) := by
    cases ys <;> first | trivial | exact v3.trans hyok
  obtain ⟨k4, o4, cs4, z41, _⟩ := g1.ch ⟨4, false, 30, false, false, none, ys.ds⟩ (by simp [sX])
  obtain ⟨hms, hds⟩ := ys_ok (ρ2 := rgEnv ρ x y (ys.n ρ)) ys hyok' (by rw [v3]; exact h3) (by rw [v47]; exact h47) (by rw [v3, v47, w5, w7]; exact hrow) z41 hy (by rw [hysn]; rfl) w5.symm rfl
  have gG := toG' (ρ2 := rgEnv ρ x y (ys.n ρ)) sh hwY2 g1 (by rw [v2]; exact h2) (by rw [v2]; exact hz) i1 i2 (fun i hi hi2 => by show (if i = 1 then x else if i = 2 then y else ρ.ov i) = ρ.ov i; rw [if_neg hi, if_neg hi2]) (by rw [hx]; rfl) (by rw [hy]; rfl) hms hds
  have hx0' : (V.ptr 0 0 0 (.c 0)).val (rgEnv ρ x y (ys.n ρ)) (θ.sig σ) = some x0 := by
    have : (V.ptr 0 0 0 (.c 0)).val (θ.env ρ) (θ.sig σ) = some x0 := f1.2 0 _ rfl
    exact this
  refine (goes_ok hx0' gG (T.inv x y _)).mono fun e w' hr => ?_
  obtain ⟨rfl, b', ρ', σ', hE, hs0, g3⟩ := hr
  have hov : ρ'.ov = (start (rgEnv ρ x y (ys.n ρ))).ov := (ends_inv hE (T.inv x y _)).2.2.2.2.2.2
  obtain ⟨hF, h51⟩ := T.fin ys h47 hmore h3 hE
  have hXv : X.cells ρ σ = some [ρ'.ov 1] := by
    rw [V.cells_one _ _ _ hw1, ← hXe, V.sub_val q1 hl, hx, hov]; rfl
  have hYv : Y.cells ρ σ = some [ρ'.ov 2] := by
    rw [V.cells_one _ _ _ hwY1, ← hYe, V.sub_val q1 hl, hy, hov]; rfl
  have hσ0 : σ'[0]? = σ[rb]? := by rw [hs0, Sub.sig_get q1 hl, hid0]
  obtain ⟨hmem, hid⟩ := S.find_mem hch
  obtain ⟨kr, or', csr, y1, y2, y3, y4, y5⟩ := g.ch ch hmem
  rw [if_pos hown] at y5
  obtain ⟨rfl, _⟩ := y5
  rw [hid] at y1
  -- what stood and is nobody's, stays
  have stay : ∀ k, k < w.heap.size → (∀ c ∈ s.H, (c.id == rb) = true → blk σ c.id ≠ some k) → w'.heap[k]? = w.heap[k]? := by
    intro k hk hno
    refine g3.kept k hk fun c hc ho => ?_
    have h0 : c.id = 0 ∨ c.fresh = true := by
      cases b'
      · simp only [sT, tmplH, Bool.false_eq_true, if_false, List.append_nil, List.mem_cons, List.not_mem_nil, or_false] at hc
        rcases hc with rfl | rfl | rfl | rfl | rfl <;> simp_all
      · simp only [sT, tmplH, if_true, List.cons_append, List.nil_append, List.mem_cons, List.not_mem_nil, or_false] at hc
        rcases hc with rfl | rfl | rfl | rfl | rfl | rfl <;> simp_all [callsC]
    rcases h0 with h0 | h0
    · rw [h0]
      have := hno ch hmem (by rw [hid]; simp)
      rw [hid] at this
      simpa [blk, hσ0] using this
    · obtain ⟨k', o', cs', e1, e2, e3, e4, _⟩ := g3.ch c hc
      have := e4 h0
      simp only [blk, e1, Option.map_some, ne_eq, Option.some.injEq]
      omega
  have gA := g.stepT (fun i => i == rb) (fun c hc hT => by
    have : c = ch := ids_unique g.ids hc hmem (by rw [hid]; simpa using hT)
    rw [this]; exact ⟨hfresh, hown⟩) g3.size g3.tape g3.os g3.out stay
  have hnot : rb ∉ (s.H.filter fun c => !(c.id == rb)).map (·.id) := by
    simp only [List.mem_map, List.mem_filter, not_exists, not_and]
    rintro c ⟨_, h1⟩ h2
    simp [h2] at h1
  have hsepr : ∀ d ∈ s.H.filter (fun c => !(c.id == rb)), blk σ d.id ≠ some kr := by
    intro d hd
    obtain ⟨hd1, hd2⟩ := List.mem_filter.1 hd
    have := g.sep ch hmem d hd1 hown (by rw [hid]; intro e; simp [← e] at hd2)
    rw [hid] at this
    simp only [blk, y1, Option.map_some] at this
    exact fun e => this e.symm
  have h0ov : ρ'.ov 0 = ρ.ov 0 := by rw [hov]; rfl
  have hlt : ∀ d ∈ s.H, ∃ k', blk σ d.id = some k' ∧ k' < w.heap.size := fun d hd => by
    obtain ⟨k', o', cs', e1, e2, e3, _⟩ := g.ch d hd
    exact ⟨k', by simp [blk, e1], e3⟩
  cases b' with
  | false =>
    obtain ⟨k, o, cs, e1, e2, e3, e4, e5⟩ := g3.ch ⟨0, true, 67, true, false, none, runSegs (.fn 10 []) .nils⟩ (by simp [sT, tmplH])
    rw [if_pos rfl] at e5
    obtain ⟨rfl, tail, e6, e7, _⟩ := e5
    rw [hσ0, y1] at e1
    cases e1
    have hok : (runCh rb X Y .nils).ok ρ W0 σ w' := ⟨kr, 0, cs, y1, fin_cells (b := false) hF h0ov hXv hYv rfl e2, e3, fun _ => y4 hfresh, by
      rw [if_pos (show (runCh rb X Y .nils).own = true from rfl)]
      exact ⟨rfl, tail, e6, fun _ => e7 rfl, fun j st h => nomatch h⟩⟩
    have gB := gA.addAt (c := runCh rb X Y .nils) hnot hok (fun d hd => by
      have := hsepr d hd
      simpa [runCh, blk, y1] using this)
    have hn49 : ρ.iv 49 = 0 := by
      by_cases h0 : ρ.iv 49 = 0
      · exact h0
      · exact absurd (hF.b.2 h0) (by simp)
    have gC := (gB.more (e := .un .not (.v 49)) (by simp only [E.n_un, E.n_v, U.den]; exact one_ne.2 hn49)).more (e := .v 51) h51
    exact ⟨.tup [], _, [], List.mem_cons_self, by rw [List.append_nil]; exact gC, rfl⟩
  | true =>
    obtain ⟨k, o, cs, e1, e2, e3, e4, e5⟩ := g3.ch ⟨0, true, 67, true, false, none, runSegs (.fn 10 []) callsV⟩ (by simp [sT, tmplH])
    rw [if_pos rfl] at e5
    obtain ⟨rfl, tail, e6, e7, _⟩ := e5
    rw [hσ0, y1] at e1
    cases e1
    obtain ⟨k5, o5, cs5, d1, d2, d3, d4, d5⟩ := g3.ch callsC (by simp [sT, tmplH])
    have d4 := d4 rfl
    rw [if_pos (show callsC.own = true from rfl)] at d5
    obtain ⟨rfl, tail5, d6, d7, d8⟩ := d5
    obtain ⟨m, d9, d10⟩ := d8 6 6 rfl
    have d1' : σ'[5]? = some (k5, 0) := d1
    have hnx : (σ ++ [(k5, 0), m])[s.nx]? = some (k5, 0) := by rw [← g.len]; simp
    have hnx1 : (σ ++ [(k5, 0), m])[s.nx + 1]? = some m := sig_two g.len
    have y1' : (σ ++ [(k5, 0), m])[rb]? = some (kr, 0) := sig_ext y1
    have gE := gA.ext [(k5, 0), m]
    have hcell5 : cellsL ρ (σ ++ [(k5, 0), m]) [.arr (.av 26) callKs (.v 69)] = some cs5 := by
      rw [← d2]
      have a6 := hF.av 6 (by omega)
      have i9 := hF.iv 9 (by omega) (by omega)
      simp only [callsC, cellsL, V.cells, natOf, E.n_v, E.a_av, a6, i9]
      rfl
    have hok5 : (⟨s.nx, true, 55, false, true, some (s.nx + 1, 6), [.arr (.av 26) callKs (.v 69)]⟩ : Chunk).ok ρ W0 (σ ++ [(k5, 0), m]) w' := ⟨k5, 0, cs5, hnx, hcell5, d3, fun _ => Nat.le_trans g.size d4, by
      rw [if_pos rfl]
      refine ⟨rfl, tail5, d6, (fun h => Bool.noConfusion h), fun j st h => ?_⟩
      cases h
      exact ⟨m, hnx1, d10⟩⟩
    have hnx5 : s.nx ∉ (s.H.filter fun c => !(c.id == rb)).map (·.id) := by
      simp only [List.mem_map, List.mem_filter, not_exists, not_and]
      rintro c ⟨hc, _⟩ h2
      obtain ⟨k', o', cs', f1, _⟩ := g.ch c hc
      have := (List.getElem?_eq_some_iff.1 f1).1
      rw [g.len] at this
      omega
    have hold : ∀ d ∈ s.H, blk (σ ++ [(k5, 0), m]) d.id = blk σ d.id := fun d hd => by
      obtain ⟨k', o', cs', f1, _⟩ := g.ch d hd
      simp only [blk, sig_ext f1, f1]
    have gF := gE.addAt hnx5 hok5 (fun d hd => by
      have hd1 := (List.mem_filter.1 hd).1
      rw [hold d hd1]
      obtain ⟨k', f1, f2⟩ := hlt d hd1
      rw [f1]
      simp only [blk, hnx, Option.map_some, ne_eq, Option.some.injEq]
      omega)
    have hcalls : (V.slice s.nx 0 0 (.c 0) (.v 69) (.s (s.nx + 1))).cells ρ (σ ++ [(k5, 0), m]) = callsV.cells ρ' σ' := by
      have i9 := hF.iv 9 (by omega) (by omega)
      simp only [callsV, V.cells, addrOf, hnx, d1', natOf, capOf, hnx1, d9, E.n_v, i9]
      rfl
    have hXv' : X.cells ρ (σ ++ [(k5, 0), m]) = some [ρ'.ov 1] := V.cells_ext _ X _ hXv
    have hYv' : Y.cells ρ (σ ++ [(k5, 0), m]) = some [ρ'.ov 2] := V.cells_ext _ Y _ hYv
    have hrbn : rb ≠ s.nx := by
      have := (List.getElem?_eq_some_iff.1 y1).1
      rw [g.len] at this
      omega
    have hok : (runCh rb X Y (.slice s.nx 0 0 (.c 0) (.v 69) (.s (s.nx + 1)))).ok ρ W0 (σ ++ [(k5, 0), m]) w' := ⟨kr, 0, cs, y1', fin_cells (b := true) hF h0ov hXv' hYv' hcalls e2, e3, fun _ => y4 hfresh, by
      rw [if_pos (show (runCh rb X Y (.slice s.nx 0 0 (.c 0) (.v 69) (.s (s.nx + 1)))).own = true from rfl)]
      exact ⟨rfl, tail, e6, fun _ => e7 rfl, fun j st h => nomatch h⟩⟩
    have gH := gF.addAt (c := runCh rb X Y (.slice s.nx 0 0 (.c 0) (.v 69) (.s (s.nx + 1)))) (by
      simp only [List.map_cons, List.mem_cons, not_or]
      exact ⟨hrbn, hnot⟩) hok (fun d hd => by
      have hr : blk (σ ++ [(k5, 0), m]) (runCh rb X Y (.slice s.nx 0 0 (.c 0) (.v 69) (.s (s.nx + 1)))).id = some kr := by simp [runCh, blk, y1']
      rw [hr]
      rcases List.mem_cons.1 hd with rfl | hd
      · simp only [blk, hnx, Option.map_some, ne_eq, Option.some.injEq]
        omega
      · rw [hold d (List.mem_filter.1 hd).1]
        exact hsepr d hd)
    have gC := (gH.more (e := .v 49) (hF.b.1 rfl)).more (e := .v 51) h51
    exact ⟨.tup [], _, [(k5, 0), m], List.mem_cons_of_mem _ List.mem_cons_self, gC, rfl⟩
end Go.Proofs.Ytfnekjeicdhihaa
