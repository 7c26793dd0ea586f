/- A run begins: from what its caller knows to what 'goes' wants. -/
import Derived.Test.YtfnekjeicdhihaaVmF
import Derived.Test.YtfnekjeicdhihaaVmJ
namespace Go.Proofs.Ytfnekjeicdhihaa
open Go.SX

def sX (X : V) (cs : List V) (Y : V) (ds : List V) : S := ⟨[], 7, [⟨0, true, 67, true, false, none, [.int .i64 (.v 0), .ms 0 2 (.v 1), X, Y, .int .i64 (.v 4),
    .arr (.av 0) [.bool] (.c 10), .arr (.av 1) [.int .u32] (.c 10), .int .i64 (.v 5), .int .i64 (.v 6), .int .i64 (.v 7), .int .u32 (.v 8), .nils, .arr (.av 2) [.int .u8] (.c 64), .fn 10 []]⟩,
  ⟨2, false, 43, false, false, none, [.arr (.av 3) insKs (.v 1)]⟩,
  ⟨3, false, 5, false, false, none, cs⟩,
  ⟨4, false, 30, false, false, none, ds⟩]⟩
/-- As the turns begin. -/
def rgEnv (ρ : Env) (x y : Value) (n : Int) : Env := { iv := fun i => if i < 3 then ρ.iv i else if i = 3 then n else 0, av := fun i => if 3 ≤ i ∧ i ≤ 5 then ρ.av i else fun _ _ => 0, ov := fun i => if i = 1 then x else if i = 2 then y else ρ.ov i }
section
variable {ρ ρ1 ρ2 : Env} {W0 : World} {σ : Sig} {w : World}
theorem toG {X Y : V} {cs ds : List V} {x y : Value} (g : Gam ρ1 W0 σ (sX X cs Y ds) w) (hw : X.wide = false) (hwY : Y.wide = false) (h1 : ∀ i, i ≤ 8 → i ≠ 3 → ρ2.iv i = ρ1.iv i) (h2 : ∀ i, i ≤ 5 → ρ2.av i = ρ1.av i) (h3 : ∀ i, i ≠ 1 → i ≠ 2 → ρ2.ov i = ρ1.ov i)
    (hX : X.val ρ1 σ = some x) (hx : msOf ρ2 σ 1 3 (.v 2) = some x) (hc : cellsL ρ2 σ [.arr (.av 4) [.int .u8] (.v 2)] = cellsL ρ1 σ cs)
    (hY : Y.val ρ1 σ = some y) (hy : msOf ρ2 σ 2 4 (.v 3) = some y) (hd : cellsL ρ2 σ [.arr (.av 5) [.int .u32] (.v 3)] = cellsL ρ1 σ ds) : Gam ρ2 W0 σ sG w := by
  have f0 := h1 0 (by omega) (by omega)
  have f1 := h1 1 (by omega) (by omega)
  have f2 := h1 2 (by omega) (by omega)
  have f4 := h1 4 (by omega) (by omega)
  have f5 := h1 5 (by omega) (by omega)
  have f6 := h1 6 (by omega) (by omega)
  have f7 := h1 7 (by omega) (by omega)
  have f8 := h1 8 (by omega) (by omega)
  have a0 := h2 0 (by omega)
  have a1 := h2 1 (by omega)
  have a2 := h2 2 (by omega)
  have a3 := h2 3 (by omega)
  have o0 := h3 0 (by omega) (by omega)
  have hXc := V.cells_one ρ1 σ X hw
  rw [hX, Option.map_some] at hXc
  have hYc := V.cells_one ρ1 σ Y hwY
  rw [hY, Option.map_some] at hYc
  refine ⟨(fun e he => by cases he), g.len, by decide, ?_, ?_, g.size, g.tape, g.os, g.out, ?_⟩
  · intro c hc'
    have key : ∀ d ∈ (sX X cs Y ds).H, ∀ segs, cellsL ρ2 σ segs = cellsL ρ1 σ d.segs → ({ d with segs := segs } : Chunk).ok ρ2 W0 σ w := by
      intro d hd segs hs
      obtain ⟨k, o, vs, e1, e2, e3, e4, e5⟩ := g.ch d hd
      exact ⟨k, o, vs, e1, by rw [hs]; exact e2, e3, e4, e5⟩
    simp only [sG, List.mem_cons, List.not_mem_nil, or_false] at hc'
    rcases hc' with rfl | rfl | rfl | rfl
    · refine key _ (List.mem_cons_self) _ ?_
      simp only [runSegs, cellsL, V.cells, natOf, E.n_v, E.a_av, f0, f1, f4, f5, f6, f7, f8, a0, a1, a2, hx, hXc, hy, hYc, Option.map_some]
      simp only [msOf, E.n_v, f1, o0]
      rfl
    · refine key _ (List.mem_cons_of_mem _ List.mem_cons_self) _ ?_
      simp only [cellsL, V.cells, natOf, E.n_v, E.a_av, f1, a3]
      rfl
    · exact key _ (List.mem_cons_of_mem _ (List.mem_cons_of_mem _ List.mem_cons_self)) _ hc
    · exact key _ (List.mem_cons_of_mem _ (List.mem_cons_of_mem _ (List.mem_cons_of_mem _ List.mem_cons_self))) _ hd
  · intro c hc d hd ho hne
    have hs : ∀ c ∈ sG.H, ∃ c' ∈ (sX X cs Y ds).H, c'.id = c.id ∧ c'.own = c.own := by
      intro c hc
      simp only [sG, List.mem_cons, List.not_mem_nil, or_false] at hc
      rcases hc with rfl | rfl | rfl | rfl <;> simp [sX]
    obtain ⟨c', hc', e1, e2⟩ := hs c hc
    obtain ⟨d', hd', e3, e4⟩ := hs d hd
    have := g.sep c' hc' d' hd' (by rw [e2]; exact ho) (by rw [e1, e3]; exact hne)
    rw [e1, e3] at this
    exact this
  · intro k hk h
    refine g.kept k hk fun c hc ho => ?_
    have hs : ∀ c ∈ (sX X cs Y ds).H, ∃ c' ∈ sG.H, c'.id = c.id ∧ c'.own = c.own := by
      intro c hc
      simp only [sX, List.mem_cons, List.not_mem_nil, or_false] at hc
      rcases hc with rfl | rfl | rfl | rfl <;> simp [sG]
    obtain ⟨c', hc', e1, e2⟩ := hs c hc
    have := h c' hc' (by rw [e2]; exact ho)
    rw [e1] at this
    exact this
/-- Some of what is known, seen from now on; what is not to be touched is nobody's. -/
theorem subV {s : S} (g : Gam ρ W0 σ s w) (p q : Chunk → Bool) : Gam ρ w σ ⟨s.pc, s.nx, (s.H.filter p).map fun c => { c with fresh := false, own := c.own && q c }⟩ w where
  pc := g.pc
  len := g.len
  ids := by
    have : ((s.H.filter p).map fun c => ({ c with fresh := false, own := c.own && q c } : Chunk)).map (·.id) = (s.H.filter p).map (·.id) := by simp [List.map_map, Function.comp_def]
    rw [this]
    exact (List.Sublist.map _ List.filter_sublist).nodup g.ids
  ch := fun c hc => by
    obtain ⟨d, hd, rfl⟩ := List.mem_map.1 hc
    obtain ⟨k, o, cs, e1, e2, e3, e4, e5⟩ := g.ch d (List.mem_filter.1 hd).1
    refine ⟨k, o, cs, e1, e2, e3, fun h => Bool.noConfusion h, ?_⟩
    have hcell : ∀ (j : Nat) (v : Value), cs[j]? = some v → w.cell? ⟨k, o + j, none⟩ = some v := by
      split at e5
      · obtain ⟨rfl, tail, h1, _⟩ := e5
        intro j v hj
        have hjl := (List.getElem?_eq_some_iff.1 hj).1
        simp only [World.cell?, h1, Nat.zero_add, Option.isSome_none, Bool.false_eq_true, if_false, List.getElem?_toArray]
        rw [List.getElem?_append_left hjl, hj]
      · exact e5
    dsimp only
    split
    · rename_i ho
      simp only [Bool.and_eq_true] at ho
      rw [if_pos ho.1] at e5
      exact e5
    · exact hcell
  sep := by
    intro c hc d hd ho
    obtain ⟨c', hc', rfl⟩ := List.mem_map.1 hc
    obtain ⟨d', hd', rfl⟩ := List.mem_map.1 hd
    simp only [Bool.and_eq_true] at ho
    exact g.sep c' (List.mem_filter.1 hc').1 d' (List.mem_filter.1 hd').1 ho.1
  size := Nat.le_refl _
  tape := rfl
  os := rfl
  out := rfl
  kept := fun _ _ _ => rfl

/-- The shapes of the copied context. -/
inductive Shape where | nil | full | empty
def Shape.X : Shape → V
  | .nil => .nils
  | .full => .slice 3 0 0 (.c 0) (.v 2) (.s 5)
  | .empty => .slice 3 0 0 (.c 0) (.c 0) (.e (.c 0))
def Shape.cs : Shape → List V
  | .empty => []
  | _ => [.arr (.av 4) [.int .u8] (.v 2)]
theorem toG' (sh : Shape) {Y : V} {ds : List V} (hwY : Y.wide = false) (g : Gam ρ1 W0 σ (sX sh.X sh.cs Y ds) w) (h0 : 0 ≤ ρ1.iv 2) (hz : sh = .full ∨ ρ1.iv 2 = 0) (h1 : ∀ i, i ≤ 8 → i ≠ 3 → ρ2.iv i = ρ1.iv i) (h2 : ∀ i, i ≤ 5 → ρ2.av i = ρ1.av i) (h3 : ∀ i, i ≠ 1 → i ≠ 2 → ρ2.ov i = ρ1.ov i)
    (hx : sh.X.val ρ1 σ = some (ρ2.ov 1)) (hY : Y.val ρ1 σ = some (ρ2.ov 2)) (hy : msOf ρ2 σ 2 4 (.v 3) = some (ρ2.ov 2)) (hd : cellsL ρ2 σ [.arr (.av 5) [.int .u32] (.v 3)] = cellsL ρ1 σ ds) : Gam ρ2 W0 σ sG w := by
  have f2 := h1 2 (by omega) (by omega)
  have a4 := h2 4 (by omega)
  obtain ⟨k, o, vs, e1, e2, e3, e4, e5⟩ := g.ch ⟨3, false, 5, false, false, none, sh.cs⟩ (by simp [sX])
  have e1' : σ[3]? = some (k, o) := e1
  refine toG g (by cases sh <;> rfl) hwY h1 h2 h3 hx ?_ ?_ hY hy hd
  · cases sh with
    | nil =>
      simp only [Shape.X, V.val, Option.some.injEq] at hx
      have hv : ρ1.iv 2 = 0 := hz.resolve_left (by simp)
      unfold msOf
      rw [← hx, e1']
      simp only [E.n_v, f2, hv, if_true]
    | full =>
      simp only [Shape.X, V.val, addrOf, e1', if_true, Nat.add_zero] at hx
      split at hx
      · rename_i a n m q1 q2 q3
        simp only [Option.some.injEq] at hx q1
        unfold msOf
        rw [← hx, e1']
        have hn : (n : Int) = ρ1.iv 2 := by
          rw [natOf_of (by rw [E.n_v]; exact h0)] at q2
          simp only [Option.some.injEq, E.n_v] at q2
          omega
        rw [← q1]
        simp only [E.n_v, f2, hn, and_self, if_true]
      · cases hx
    | empty =>
      have hv : ρ1.iv 2 = 0 := hz.resolve_left (by simp)
      simp only [Shape.X, V.val, addrOf, e1', if_true, Nat.add_zero] at hx
      split at hx
      · rename_i a n m q1 q2 q3
        simp only [Option.some.injEq] at hx q1
        unfold msOf
        rw [← hx, e1']
        have hn : (n : Int) = 0 := by
          rw [natOf_of (by rw [E.n_c]; omega)] at q2
          simp only [Option.some.injEq, E.n_c] at q2
          omega
        rw [← q1]
        simp only [E.n_v, f2, hv, hn, and_self, if_true]
      · cases hx
  · cases sh with
    | nil => simp only [Shape.cs, cellsL, V.cells, natOf, E.n_v, E.a_av, f2, a4]; rfl
    | full => simp only [Shape.cs, cellsL, V.cells, natOf, E.n_v, E.a_av, f2, a4]; rfl
    | empty =>
      have hv : ρ1.iv 2 = 0 := hz.resolve_left (by simp)
      have hn : natOf ρ2 (.v 2) = some 0 := by rw [natOf_of (by rw [E.n_v, f2, hv]; omega), E.n_v, f2, hv]; rfl
      simp only [Shape.cs, cellsL, V.cells, hn, Option.map_some, E.a_av]
      simp [arrCells]

/-! ### The answers' shapes -/
theorem arr_join (f g : Int → Nat → Int) (m n : Nat) (h : ∀ r : Nat, r < n → f ((m + r : Nat) : Int) 0 = g (r : Int) 0) (ks : List CK) (hk : ks.length = 1) : arrCells f ks (m + n) = arrCells f ks m ++ arrCells g ks n := by
  simp only [arrCells, hk, Nat.mul_one, List.range_add, List.map_append, List.map_map]
  congr 1
  apply List.map_congr_left
  intro r hr
  have hr := List.mem_range.1 hr
  simp only [Function.comp, arrCell, hk, Nat.div_one, Nat.mod_one]
  rw [h r hr]
inductive YS where | ms | nil | a | b | ab
def YS.Y : YS → V
  | .ms => .ms 2 4 (.v 3)
  | .nil => .nils
  | .a => .slice 4 0 0 (.c 0) (.v 3) (.s 6)
  | .b => .slice 4 0 0 (.c 0) (.v 47) (.s 6)
  | .ab => .slice 4 0 0 (.c 0) (.bi .add (.v 3) (.v 47)) (.s 6)
def YS.ds : YS → List V
  | .b => [.arr (.av 7) [.int .u32] (.v 47)]
  | .ab => [.arr (.av 5) [.int .u32] (.v 3), .arr (.av 7) [.int .u32] (.v 47)]
  | _ => [.arr (.av 5) [.int .u32] (.v 3)]
def YS.n (ρ : Env) : YS → Int
  | .b | .ab => ρ.iv 3 + ρ.iv 47
  | _ => ρ.iv 3
/-- What must hold for a shape. -/
def YS.ok (ρ : Env) : YS → Prop
  | .nil | .b => ρ.iv 3 = 0
  | _ => True
theorem ys_ok (ys : YS) (hok : ys.ok ρ1) (h3 : 0 ≤ ρ1.iv 3) (h47 : 0 ≤ ρ1.iv 47) (hrow : ∀ r : Nat, (r : Int) < ρ1.iv 47 → ρ1.av 5 (ρ1.iv 3 + r) 0 = ρ1.av 7 r 0) {k o : Nat} (hσ : σ[4]? = some (k, o)) {y : Value} (hY : ys.Y.val ρ1 σ = some y)
    (e3 : ρ2.iv 3 = ys.n ρ1) (e5 : ρ2.av 5 = ρ1.av 5) (eo : ρ2.ov 2 = y) : msOf ρ2 σ 2 4 (.v 3) = some (ρ2.ov 2) ∧ cellsL ρ2 σ [.arr (.av 5) [.int .u32] (.v 3)] = cellsL ρ1 σ ys.ds := by
  have fresh : ∀ (len : E) (n : Int), len.n ρ1 = n → ρ2.iv 3 = n → 0 ≤ n → (V.slice 4 0 0 (.c 0) len (.s 6)).val ρ1 σ = some y → msOf ρ2 σ 2 4 (.v 3) = some (ρ2.ov 2) := by
    intro len n hl hn h0 hY
    simp only [V.val, addrOf, hσ, if_true, Nat.add_zero] at hY
    split at hY
    · rename_i a m c q1 q2 q3
      simp only [Option.some.injEq] at hY q1
      rw [natOf_of (by rw [hl]; exact h0)] at q2
      simp only [Option.some.injEq, hl] at q2
      unfold msOf
      rw [eo, ← hY, hσ, ← q1]
      have : (m : Int) = ρ2.iv 3 := by omega
      simp only [E.n_v, this, and_self, if_true]
    · cases hY
  have hn0 : 0 ≤ ρ2.iv 3 := by rw [e3]; cases ys <;> simp only [YS.n] <;> omega
  have cells : ∀ n : Nat, ρ2.iv 3 = n → cellsL ρ2 σ [.arr (.av 5) [.int .u32] (.v 3)] = some (arrCells (ρ1.av 5) [.int .u32] n ++ []) := by
    intro n hn
    simp only [cellsL, V.cells]
    rw [natOf_of (by rw [E.n_v]; exact hn0), E.n_v, hn, Option.map_some, E.a_av, e5, Int.toNat_natCast]
  have base : ρ2.iv 3 = ρ1.iv 3 → cellsL ρ2 σ [.arr (.av 5) [.int .u32] (.v 3)] = cellsL ρ1 σ [.arr (.av 5) [.int .u32] (.v 3)] := by
    intro hn
    simp only [cellsL, V.cells, natOf, E.n_v, E.a_av, hn, e5]
    rfl
  cases ys with
  | ms =>
    refine ⟨?_, base e3⟩
    simp only [YS.Y, V.val] at hY
    have hv := hY
    unfold msOf at hv ⊢
    rw [eo]
    split at hv
    · rename_i h1 h2
      split at hv
      · rename_i h3'
        cases hv
        rw [h2]
        exact if_pos (c := E.n ρ2 (.v 3) = 0) (e3.trans h3')
      · cases hv
    · rename_i h1 h2
      split at hv
      · rename_i h3'
        cases hv
        rw [h2]
        exact if_pos (c := _ ∧ _ = E.n ρ2 (.v 3)) ⟨h3'.1, h3'.2.trans e3.symm⟩
      · cases hv
    · cases hv
  | nil =>
    refine ⟨?_, base e3⟩
    simp only [YS.Y, V.val, Option.some.injEq] at hY
    unfold msOf
    rw [eo, ← hY, hσ]
    exact if_pos (c := E.n ρ2 (.v 3) = 0) (e3.trans hok)
  | a => exact ⟨fresh _ (ρ1.iv 3) rfl e3 h3 hY, base e3⟩
  | b =>
    have hz : ρ1.iv 3 = 0 := hok
    have hn : ρ2.iv 3 = ρ1.iv 47 := by rw [e3]; simp only [YS.n, hz]; omega
    refine ⟨fresh _ (ρ1.iv 47) rfl hn h47 hY, ?_⟩
    rw [cells (ρ1.iv 47).toNat (by omega)]
    simp only [YS.ds, cellsL, V.cells]
    rw [natOf_of (by rw [E.n_v]; exact h47), E.n_v, Option.map_some, E.a_av]
    have := arr_join (ρ1.av 5) (ρ1.av 7) 0 (ρ1.iv 47).toNat (fun r hr => by
      have := hrow r (by omega)
      rw [hz] at this
      simpa using this) [.int .u32] rfl
    rw [Nat.zero_add] at this
    rw [this]
    simp [arrCells]
  | ab =>
    refine ⟨fresh _ (ρ1.iv 3 + ρ1.iv 47) rfl e3 (by omega) hY, ?_⟩
    rw [cells ((ρ1.iv 3).toNat + (ρ1.iv 47).toNat) (by rw [e3]; simp only [YS.n]; omega)]
    simp only [YS.ds, cellsL, V.cells]
    rw [natOf_of (by rw [E.n_v]; exact h3), natOf_of (by rw [E.n_v]; exact h47), E.n_v, E.n_v, Option.map_some, Option.map_some, E.a_av, E.a_av]
    rw [arr_join (ρ1.av 5) (ρ1.av 7) (ρ1.iv 3).toNat (ρ1.iv 47).toNat (fun r hr => by
      have := hrow r (by omega)
      rw [← this]
      congr 1
      omega) [.int .u32] rfl]
    simp
end
end Go.Proofs.Ytfnekjeicdhihaa
