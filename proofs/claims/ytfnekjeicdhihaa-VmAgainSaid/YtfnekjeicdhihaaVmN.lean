/- 'goes' as a contract of the executor, with what comes of it told ahead. -/
import Derived.Test.YtfnekjeicdhihaaVmM
namespace Go.Proofs.Ytfnekjeicdhihaa
open Go.SX

/- Told ahead: 50 what Check tells; 49 are there calls; 51 does the run with the fewer answers end; 60 .. 74 the numbers, rows 20 .. 26 the rows of the end. -/
structure Fin (ρ : Env) (b : Bool) (ρ' : Env) : Prop where
  b : b = true ↔ ρ.iv 49 ≠ 0
  iv : ∀ i, i < 15 → i ≠ 3 → ρ.iv (60 + i) = ρ'.iv i
  av : ∀ i, i < 7 → ρ.av (20 + i) = ρ'.av i
def finSegs (X Y calls : V) : List V := [.int .i64 (.v 60), .ov 0, X, Y, .int .i64 (.v 64), .arr (.av 20) [.bool] (.c 10), .arr (.av 21) [.int .u32] (.c 10), .int .i64 (.v 65), .int .i64 (.v 66), .int .i64 (.v 67), .int .u32 (.v 68), calls, .arr (.av 22) [.int .u8] (.c 64), .fn 10 []]
def shapeOf : V → Option (Shape × Option Nat)
  | .nils => some (.nil, none)
  | .slice b 0 0 (.c 0) (.v 2) (.s _) => some (.full, some b)
  | .slice b 0 0 (.c 0) (.c 0) (.e (.c 0)) => some (.empty, some b)
  | _ => none
def Shape.isFull : Shape → Bool
  | .full => true
  | _ => false
def ysOf : V → Option (YS × Option Nat)
  | .ms 2 b (.v 3) => some (.ms, some b)
  | .nils => some (.nil, none)
  | .slice b 0 0 (.c 0) (.v 3) (.s _) => some (.a, some b)
  | .slice b 0 0 (.c 0) (.v 47) (.s _) => some (.b, some b)
  | .slice b 0 0 (.c 0) (.bi .add (.v 3) (.v 47)) (.s _) => some (.ab, some b)
  | _ => none
def YS.isMs : YS → Bool
  | .ms => true
  | _ => false
/-- What must be known for a shape. -/
def YS.okK (pc : List E) : YS → Bool
  | .nil | .b => known pc (.bi .le (.v 3) (.c 0))
  | _ => true
def pickS (s : S) (rb cid did : Nat) : S := ⟨s.pc, s.nx, (s.H.filter fun c => c.id == rb || c.id == 2 || c.id == cid || c.id == did).map fun c => { c with fresh := false, own := c.own && (c.id == rb) }⟩
def okStart (θ : Sub) (rb : Nat) (X' X Y' Y : V) : Bool := [0, 1, 2, 3, 47].all (fun i => decide (lk θ.iv i (.v i) = .v i)) && [4, 5, 6, 7, 8].all (fun i => decide (lk θ.iv i (.v i) = .c 0)) && [0, 1, 2].all (fun i => decide (lk θ.av i (.av i) = .zz))
  && [3, 4, 5, 7].all (fun i => decide (lk θ.av i (.av i) = .av i)) && θ.id 0 == rb && (X'.sub θ).same X && (Y'.sub θ).same Y
def runCh (rb : Nat) (X Y calls : V) : Chunk := ⟨rb, true, 67, true, true, none, finSegs X Y calls⟩
def k17 (args : List V) (s : S) : Option (List COut) := match args with
  | [.ptr rb 0 0 (.c 0)] => match s.find rb with
    | some ch => if ch.own = true ∧ ch.fresh = true ∧ known s.pc (.bi .eq (.v 50) (.c 0)) = true then match ch.segs[2]?, ch.segs[3]? with
        | some X, some Y => match shapeOf X, ysOf Y with
          | some (sh, b), some (ys, d) => if (sh.isFull = true ∨ known s.pc (.bi .le (.v 2) (.c 0)) = true) ∧ ys.okK s.pc = true ∧ (ys.isMs = true ∨ known s.pc (.v 51) = true ∧ (known s.pc (.un .not (.v 49)) = true ∨ known s.pc (.bi .le (.v 69) (.v 3)) = true)) then
              match mt [some (.ptr 0 0 0 (.c 0))] (sX sh.X sh.cs ys.Y ys.ds) [some (.ptr rb 0 0 (.c 0))] (pickS s rb (b.getD 3) (d.getD 4)) with
              | some θ => if okStart θ rb sh.X X ys.Y Y = true then some
                  [.ret (.tup []) { s with pc := .v 51 :: .un .not (.v 49) :: s.pc, H := runCh rb X Y .nils :: s.H.filter fun c => !(c.id == rb) },
                   .ret (.tup []) { pc := .v 51 :: .v 49 :: s.pc, nx := s.nx + 2, H := runCh rb X Y (.slice s.nx 0 0 (.c 0) (.v 69) (.s (s.nx + 1))) :: ⟨s.nx, true, 55, false, true, some (s.nx + 1, 6), [.arr (.av 26) callKs (.v 69)]⟩ :: s.H.filter fun c => !(c.id == rb) }]
                else none
              | none => none
            else none
          | _, _ => none
        | _, _ => none
      else none
    | none => none
  | _ => none
def kVm : CallF := fun f vs s => if f = 17 then k17 vs s else none
noncomputable def outBegun0 : Option (List COut) := callX Try.prog (fun f vs s => if f = 15 then some [.ret (.int .i64 (.v 50)) s] else kVm f vs s) 200 9 [.agg [.int .i64 (.v 0), .ms 0 2 (.v 1)], .ms 1 3 (.v 2), .ms 2 4 (.v 3), .fn 10 []]
  ⟨[.bi .le (.c 0) (.v 2), .bi .le (.v 2) (.c 140737488355328)], 5, [⟨2, false, 43, false, false, none, [.arr (.av 3) insKs (.v 1)]⟩, ⟨3, false, 5, false, false, none, [.arr (.av 4) [.int .u8] (.v 2)]⟩, ⟨4, false, 30, false, false, none, [.arr (.av 5) [.int .u32] (.v 3)]⟩]⟩

theorem ms_ov {ρ : Env} {σ : Sig} {o b : Nat} {len : E} {v : Value} (h : msOf ρ σ o b len = some v) : v = ρ.ov o := by
  unfold msOf at h
  split at h
  · rename_i h1 h2
    split at h
    · cases h; exact h1.symm
    · cases h
  · rename_i h1 h2
    split at h
    · cases h; exact h1.symm
    · cases h
  · cases h
/-- The end's cells, told ahead. -/
theorem fin_cells {ρ ρ' : Env} {σ σ' : Sig} {X Y calls calls' : V} {b : Bool} {cs : List Value} (hF : Fin ρ b ρ') (h0 : ρ'.ov 0 = ρ.ov 0) (hX : X.cells ρ σ = some [ρ'.ov 1]) (hY : Y.cells ρ σ = some [ρ'.ov 2]) (hc : calls'.cells ρ σ = calls.cells ρ' σ')
    (h : cellsL ρ' σ' (runSegs (.fn 10 []) calls) = some cs) : cellsL ρ σ (finSegs X Y calls') = some cs := by
  have i0 := hF.iv 0 (by omega) (by omega)
  have i4 := hF.iv 4 (by omega) (by omega)
  have i5 := hF.iv 5 (by omega) (by omega)
  have i6 := hF.iv 6 (by omega) (by omega)
  have i7 := hF.iv 7 (by omega) (by omega)
  have i8 := hF.iv 8 (by omega) (by omega)
  have a0 := hF.av 0 (by omega)
  have a1 := hF.av 1 (by omega)
  have a2 := hF.av 2 (by omega)
  simp only [runSegs] at h
  obtain ⟨c0, r0, e0, q0, rfl⟩ := cellsL_cons h
  obtain ⟨c1, r1, e1, q1, rfl⟩ := cellsL_cons q0
  obtain ⟨c2, r2, e2, q2, rfl⟩ := cellsL_cons q1
  obtain ⟨c3, r3, e3, q3, rfl⟩ := cellsL_cons q2
  obtain ⟨c4, r4, e4, q4, rfl⟩ := cellsL_cons q3
  obtain ⟨c5, r5, e5, q5, rfl⟩ := cellsL_cons q4
  obtain ⟨c6, r6, e6, q6, rfl⟩ := cellsL_cons q5
  obtain ⟨c7, r7, e7, q7, rfl⟩ := cellsL_cons q6
  obtain ⟨c8, r8, e8, q8, rfl⟩ := cellsL_cons q7
  obtain ⟨c9, r9, e9, q9, rfl⟩ := cellsL_cons q8
  obtain ⟨c10, r10, e10, q10, rfl⟩ := cellsL_cons q9
  obtain ⟨c11, r11, e11, q11, rfl⟩ := cellsL_cons q10
  obtain ⟨c12, r12, e12, q12, rfl⟩ := cellsL_cons q11
  obtain ⟨c13, r13, e13, q13, rfl⟩ := cellsL_cons q12
  simp only [cellsL, Option.some.injEq] at q13
  subst q13
  have ovc : ∀ {o b : Nat} {len : E} {c : List Value}, (V.ms o b len).cells ρ' σ' = some c → ρ'.ov o = ρ.ov o → (V.ov o).cells ρ σ = some c := by
    intro o b len c hc ho
    simp only [V.cells, Option.map_eq_some_iff] at hc
    obtain ⟨v, hv, rfl⟩ := hc
    have h1 := ms_one hv
    have h2 := ms_ov hv
    simp only [V.cells]
    rw [← ho, ← h2, if_pos h1]
  unfold finSegs
  refine cellsL_cons_some (by simpa only [V.cells, E.n_v, i0] using e0) ?_
  refine cellsL_cons_some (ovc e1 h0) ?_
  refine cellsL_cons_some (a := c2) ?_ ?_
  · simp only [V.cells, Option.map_eq_some_iff] at e2
    obtain ⟨v, hv, rfl⟩ := e2
    rw [hX, ms_ov hv]
  refine cellsL_cons_some (a := c3) ?_ ?_
  · simp only [V.cells, Option.map_eq_some_iff] at e3
    obtain ⟨v, hv, rfl⟩ := e3
    rw [hY, ms_ov hv]
  refine cellsL_cons_some (by simpa only [V.cells, E.n_v, i4] using e4) ?_
  refine cellsL_cons_some (by simp only [V.cells, E.a_av, a0] at e5 ⊢; exact e5) ?_
  refine cellsL_cons_some (by simp only [V.cells, E.a_av, a1] at e6 ⊢; exact e6) ?_
  refine cellsL_cons_some (by simpa only [V.cells, E.n_v, i5] using e7) ?_
  refine cellsL_cons_some (by simpa only [V.cells, E.n_v, i6] using e8) ?_
  refine cellsL_cons_some (by simpa only [V.cells, E.n_v, i7] using e9) ?_
  refine cellsL_cons_some (by simpa only [V.cells, E.n_v, i8] using e10) ?_
  refine cellsL_cons_some (by rw [hc]; exact e11) ?_
  refine cellsL_cons_some (by simp only [V.cells, E.a_av, a2] at e12 ⊢; exact e12) ?_
  exact cellsL_cons_some e13 rfl
end Go.Proofs.Ytfnekjeicdhihaa
