/- SameRan: two alike. -/
import Derived.Test.YtfnekjeicdhihaaVmR
namespace Go.Proofs.Ytfnekjeicdhihaa
open Go.SX

noncomputable def srHead : List Code := match Try.f7.body with
  | some (.seq a (.seq b _)) => [a, b]
  | _ => []
noncomputable def srX3 : Code := match Try.f7.body with
  | some (.seq _ (.seq _ (.seq (.seq c _) _))) => c
  | _ => .skip
noncomputable def srLoop : Code := match Try.f7.body with
  | some (.seq _ (.seq _ (.seq (.seq _ (.block _ (.loop c))) _))) => c
  | _ => .skip
def ranV (calls : V) : V := .agg [.int .i64 (.v 65), .int .i64 (.v 66), .int .i64 (.v 67), .int .u32 (.v 68), calls, .arr (.av 22) [.int .u8] (.c 64)]
def ranSegs (calls : V) : List V := [.int .i64 (.v 65), .int .i64 (.v 66), .int .i64 (.v 67), .int .u32 (.v 68), calls, .arr (.av 22) [.int .u8] (.c 64)]
def srC (i : Nat) : Chunk := ⟨i, false, 55, false, false, none, [.arr (.av 26) callKs (.v 69)]⟩
def srV (i : Nat) (c : Nat) : V := .slice i 0 0 (.c 0) (.v 69) (.s c)
def sS0 : S := ⟨[.bi .le (.c 0) (.v 69)], 4, [srC 0, srC 1]⟩
def sS (pc : List E) : S := ⟨pc, 6, [⟨5, true, 34, true, true, none, ranSegs (srV 1 3)⟩, ⟨4, true, 34, true, true, none, ranSegs (srV 0 2)⟩, srC 0, srC 1]⟩
def tmS0 : TM := [some (ranV (srV 0 2)), some (ranV (srV 1 3))] ++ List.replicate 64 none
def tmSL : TM := [none, none, some (.ptr 4 0 0 (.c 0)), some (.ptr 5 0 0 (.c 0)), none, some (.int .i64 (.v 72))] ++ List.replicate 60 none
def tmS1 : TM := [none, none, some (.ptr 4 0 0 (.c 0)), some (.ptr 5 0 0 (.c 0))] ++ List.replicate 62 none
def okS1 (o : Option (List Out)) : Bool := match o with
  | some l => l.all fun
    | .nor tm s => match mt tmS1 (sS []) tm s with
      | some θ => idS θ []
      | none => false
    | _ => false
  | none => false
def okS0 (o : Option (List Out)) : Bool := match o with
  | some l => l.all fun
    | .nor tm s => match mt tmSL (sS []) tm s with
      | some θ => idS θ [(72, .c 0)]
      | none => false
    | _ => false
  | none => false
def okSL (o : Option (List Out)) : Bool := match o with
  | some l => l.all fun
    | .nor tm s => (match mt tmSL (sS []) tm s with
      | some θ => idS θ [(72, .un (.wrap .i64) (.bi .add (.v 72) (.c 1)))]
      | none => false) && decide (E.bi .lt (.v 72) (.v 69) ∈ s.pc)
    | .exi i tm s => i == 0 && (match mt tmSL (sS []) tm s with
      | some θ => idS θ []
      | none => false)
    | _ => false
  | none => false
theorem okS1_ok : okS1 (sxs Try.prog noK 200 srHead tmS0 sS0) = true := by kernel_rfl
theorem okS0_ok : okS0 (sx Try.prog noK 200 srX3 tmS1 (sS [])) = true := by kernel_rfl
theorem okSL_ok : okSL (sx Try.prog noK 200 srLoop tmSL (sS [.bi .le (.c 0) (.v 69), .bi .le (.c 0) (.v 72)])) = true := by kernel_rfl
end Go.Proofs.Ytfnekjeicdhihaa
