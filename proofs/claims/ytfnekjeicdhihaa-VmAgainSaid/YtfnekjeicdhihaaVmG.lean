/- code.Check: its loop, its jumps. -/
import Derived.Test.YtfnekjeicdhihaaSxQ
import Derived.Test.YtfnekjeicdhihaaChecked
namespace Go.Proofs.Ytfnekjeicdhihaa
open Go.SX

/- Variables. 0 Context, 1 how many instructions; 30 .. 34 Op, Dst, Src, Off, Imm of the one at hand; 36 its number. Row 3: the instructions. -/
noncomputable def chkR0 : Code := match Try.f15.body with
  | some (.seq x _) => x
  | _ => .skip
noncomputable def chkScope : Code := match Try.f15.body with
  | some (.seq _ (.scope c)) => c
  | _ => .skip
noncomputable def chkX1 : Code := match chkScope with
  | .seq x _ => x
  | _ => .skip
noncomputable def chkR3 : Code := match chkScope with
  | .seq _ (.seq (.seq x _) _) => x
  | _ => .skip
noncomputable def chkLoop : Code := match chkScope with
  | .seq _ (.seq (.seq _ (.block _ (.loop c))) _) => c
  | _ => .skip
noncomputable def chkX3 : Code := match chkScope with
  | .seq _ (.seq _ (.seq x _)) => x
  | _ => .skip
noncomputable def chkX4 : Code := match chkScope with
  | .seq _ (.seq _ (.seq _ (.seq x _))) => x
  | _ => .skip
noncomputable def chkZ : Code := match chkScope with
  | .seq _ (.seq _ (.seq _ (.seq _ z))) => z
  | _ => .skip
theorem chk_code : Try.f15.body = some (.seq chkR0 (.scope (.seq chkX1 (.seq (.seq chkR3 (.block 0 (.loop chkLoop))) (.seq chkX3 (.seq chkX4 chkZ)))))) := rfl
noncomputable def chkZ' : Code := match chkZ with
  | .seq _ z => z
  | _ => .skip
theorem chk_label : findLabel (.seq chkX1 (.seq (.seq chkR3 (.block 0 (.loop chkLoop))) (.seq chkX3 (.seq chkX4 chkZ)))) 0 = some (.seq .skip chkZ') := by kernel_rfl

def insKsC : List CK := [.int .i64, .int .i64, .int .i64, .int .i64, .int .u32]
def sK0 : S := ⟨[], 1, [⟨0, false, 43, false, false, none, [.arr (.av 3) insKsC (.v 1)]⟩]⟩
def sK (ins : E) (pc : List E) : S := ⟨pc, 2, [⟨1, true, 24, true, true, none, [.int .i64 (.v 0), .ms 0 0 (.v 1)]⟩, ⟨0, false, 43, false, false, none, [.arr ins insKsC (.v 1)]⟩]⟩
def tmK0 : TM := some (.agg [.int .i64 (.v 0), .ms 0 0 (.v 1)]) :: List.replicate 28 none
def tmK1 : TM := [none, some (.ptr 1 0 0 (.c 0))] ++ List.replicate 27 none
def tmKL : TM := [none, some (.ptr 1 0 0 (.c 0)), some (.int .i64 (.c 2))] ++ List.replicate 11 none ++ [some (.ms 0 0 (.v 1)), some (.int .i64 (.v 1)), some (.int .i64 (.v 36))] ++ List.replicate 12 none
def insE (op : E) : E := .set (.set (.set (.set (.set (.av 3) (.v 36) 0 op) (.v 36) 1 (.v 31)) (.v 36) 2 (.v 32)) (.v 36) 3 (.v 33)) (.v 36) 4 (.v 34)
def pcK : List E := [.bi .le (.c 0) (.v 36), .bi .lt (.v 36) (.v 1)]

/-! ### What may stand there -/
def usesDst (op : Int) : Bool := (1 ≤ op && op ≤ 18) || (20 ≤ op && op ≤ 22)
def usesSrc (op : Int) : Bool := op == 2 || op == 4 || op == 5 || op == 7 || (9 ≤ op && op ≤ 11) || (14 ≤ op && op ≤ 18) || op == 22
def usesOff (op : Int) : Bool := 16 ≤ op && op ≤ 22
def usesImm (op : Int) : Bool := op == 1 || op == 3 || op == 6 || op == 8 || op == 12 || op == 13 || op == 20 || op == 21 || op == 23
def conj (op : Int) : List E :=
  (if usesDst op = true then [.bi .le (.c 0) (.v 31), .bi .le (.v 31) (.c 9)] else [.bi .eq (.v 31) (.c 0)]) ++
  (if usesSrc op = true then [.bi .le (.c 0) (.v 32), .bi .le (.v 32) (.c 9)] else [.bi .eq (.v 32) (.c 0)]) ++
  (if usesOff op = true then if 19 ≤ op then [.bi .le (.c 0) (.v 33), .bi .le (.v 33) (.c 255)] else [.bi .le (.c (-32768)) (.v 33), .bi .le (.v 33) (.c 32767)] else [.bi .eq (.v 33) (.c 0)]) ++
  [.bi .le (.v 34) (.c (if usesImm op = true then if op = 12 ∨ op = 13 then 31 else if op = 23 then 7 else 4294967295 else 0))]
def freshS (s : S) : Bool := s.H.all fun c => !c.own || c.fresh
def gto2 (n : Int) (l : Nat) (tm : TM) : Bool := l == 0 && tm.length == 29 && (match tm[2]? with
  | some (some (V.int .i64 (.c m))) => decide (m = n)
  | _ => false)
/-- Either a conjunct fails, or all hold. -/
def okWay (op : Int) : Out → Bool
  | .gto l tm s => freshS s && gto2 2 l tm && s.pc.any (fun e => (conj op).any fun c => decide (e = neg c) || decide (e = .un .not c))
  | .nor tm s => (conj op).all (fun c => decide (c ∈ s.pc)) && (match mt tmKL (sK (.av 3) []) tm s with
    | some θ => θ.iv.all (fun p => if p.1 = 36 then decide (p.2 = .un (.wrap .i64) (.bi .add (.v 36) (.c 1))) else decide (p.2 = .v p.1)) && decide (lk θ.iv 36 (.v 36) ≠ .v 36) && θ.av.all (fun p => decide (p = (3, insE (.c op)))) && decide (lk θ.av 3 (.av 3) ≠ .av 3) && θ.id 0 == 0
    | none => false)
  | _ => false
noncomputable def outK (op : E) (pc : List E) : Option (List Out) := sx Try.prog noK 200 chkLoop tmKL (sK (insE op) (pc ++ pcK))
def okK (op : Int) (o : Option (List Out)) : Bool := match o with
  | some l => l.all (okWay op)
  | none => false
def okBad (o : Option (List Out)) : Bool := match o with
  | some l => l.all fun
    | .gto l tm s => freshS s && gto2 2 l tm
    | _ => false
  | none => false
/-! ### Ahead of the loop, and behind it -/
def idS (θ : Sub) (iv : List (Nat × E)) : Bool := θ.iv.all (fun p => decide (p.2 = lk iv p.1 (.v p.1))) && iv.all (fun p => decide (lk θ.iv p.1 (.v p.1) = p.2)) && θ.av.all (fun p => decide (p.2 = .av p.1)) && θ.id 0 == 0
def okC0 (o : Option (List Out)) : Bool := match o with
  | some l => l.all fun
    | .nor tm s => match mt tmK1 (sK (.av 3) []) tm s with
      | some θ => idS θ []
      | none => false
    | _ => false
  | none => false
noncomputable def outC1 : Option (List Out) := sxs Try.prog noK 200 [chkX1, chkR3] tmK1 (sK (.av 3) [])
def okC1 (o : Option (List Out)) : Bool := match o with
  | some l => l.all fun
    | .gto i tm s => freshS s && gto2 2 i tm && (decide (E.bi .lt (.v 0) (.c 0) ∈ s.pc) || decide (E.bi .lt (.c 256) (.v 0) ∈ s.pc))
    | .nor tm s => (match mt tmKL (sK (.av 3) []) tm s with
      | some θ => idS θ [(36, .c 0)]
      | none => false) && decide (E.bi .le (.c 0) (.v 0) ∈ s.pc) && decide (E.bi .le (.v 0) (.c 256) ∈ s.pc)
    | _ => false
  | none => false
noncomputable def outC3 : Option (List Out) := sxs Try.prog noK 200 [chkX3, chkX4] tmKL (sK (.av 3) [])
def okC3 (o : Option (List Out)) : Bool := match o with
  | some l => l.all fun
    | .gto i tm s => freshS s && gto2 3 i tm && decide (E.bi .lt (.c 256) (.v 1) ∈ s.pc)
    | .ret tm s => freshS s && (match tm[2]? with
      | some (some (V.int .i64 (.c m))) => decide (m = 0)
      | _ => false) && decide (E.bi .le (.v 1) (.c 256) ∈ s.pc)
    | _ => false
  | none => false
/-- A turn that finds no more. -/
noncomputable def outE : Option (List Out) := sx Try.prog noK 200 chkLoop tmKL (sK (.av 3) [.bi .le (.v 1) (.v 36)])
def okE (o : Option (List Out)) : Bool := match o with
  | some l => l.all fun
    | .exi i tm s => i == 0 && (match mt tmKL (sK (.av 3) []) tm s with
      | some θ => idS θ []
      | none => false)
    | _ => false
  | none => false
theorem okC0_ok : okC0 (sx Try.prog noK 200 chkR0 tmK0 sK0) = true := by kernel_rfl
theorem okC1_ok : okC1 outC1 = true := by kernel_rfl
theorem okC3_ok : okC3 outC3 = true := by kernel_rfl
theorem okE_ok : okE outE = true := by kernel_rfl
end Go.Proofs.Ytfnekjeicdhihaa
