/- The run of package vm: how it stands at the head of a turn, and what is to be looked at of the turn's ways. -/
import Derived.Test.YtfnekjeicdhihaaSxP
import Derived.Test.YtfnekjeicdhihaaChecked
namespace Go.Proofs.Ytfnekjeicdhihaa
open Go.SX

noncomputable def loopOf : Code → Code
  | .seq _ b => loopOf b
  | .block _ c => loopOf c
  | .loop c => c
  | c => c
noncomputable def goesLoop : Code := match Try.f17.body with
  | some c => loopOf c
  | none => .skip
noncomputable def headX : Code := match goesLoop with
  | .seq x _ => x
  | _ => .skip
noncomputable def restX : Code := match goesLoop with
  | .seq _ (.block _ c) => c
  | _ => .skip
noncomputable def headCs : List Code := match restX with
  | .seq a (.seq b (.seq c _)) => [a, b, c]
  | _ => []
noncomputable def codeB : Code := match restX with
  | .seq _ (.seq _ (.seq _ z)) => z
  | _ => .skip
theorem goesLoop_eq : goesLoop = .seq headX (.block 1 (seqs headCs codeB)) := rfl

/- Variables. 0 Context, 1 how many instructions, 2 how many bytes, 3 how many answers, 4 at, 5 Steps, 6 Fault, 7 At, 8 Value, 9 how many calls; 10 .. 13 Dst, Src, Off, Imm of the instruction at hand; 14 is it at its end.
   Rows. 0 set, 1 regs, 2 Scratch, 3 instructions, 4 context, 5 answers, 6 calls. -/
def insKs : List CK := [.int .i64, .int .i64, .int .i64, .int .i64, .int .u32]
def callKs : List CK := [.int .i64, .int .u32, .int .u32, .int .u32, .int .u32, .int .u32]
def runSegs (tell calls : V) : List V := [.int .i64 (.v 0), .ms 0 2 (.v 1), .ms 1 3 (.v 2), .ms 2 4 (.v 3), .int .i64 (.v 4),
  .arr (.av 0) [.bool] (.c 10), .arr (.av 1) [.int .u32] (.c 10), .int .i64 (.v 5), .int .i64 (.v 6), .int .i64 (.v 7), .int .u32 (.v 8), calls, .arr (.av 2) [.int .u8] (.c 64), tell]
def insA (op : Int) : E := .set (.set (.set (.set (.set (.av 3) (.v 4) 0 (.c op)) (.v 4) 1 (.v 10)) (.v 4) 2 (.v 11)) (.v 4) 3 (.v 12)) (.v 4) 4 (.v 13)
def callsV : V := .slice 5 0 0 (.c 0) (.v 9) (.s 6)
def callsC : Chunk := ⟨5, true, 55, false, true, some (6, 6), [.arr (.av 6) callKs (.v 9)]⟩
def tmplH (tell calls : V) (ins : E) : List Chunk := [⟨0, true, 67, true, false, none, runSegs tell calls⟩,
  ⟨1, true, 64, true, true, none, [.ptr 0 0 0 (.c 0)]⟩,
  ⟨2, false, 43, false, false, none, [.arr ins insKs (.v 1)]⟩,
  ⟨3, false, 5, false, false, none, [.arr (.av 4) [.int .u8] (.v 2)]⟩,
  ⟨4, false, 30, false, false, none, [.arr (.av 5) [.int .u32] (.v 3)]⟩]
def sT (b : Bool) (ins : E) (pc : List E) : S := ⟨pc, 7, tmplH (.fn 10 []) (if b = true then callsV else .nils) ins ++ (if b = true then [callsC] else [])⟩
def tmT : TM := [none, some (.ptr 1 0 0 (.c 0)), some (.bool (.v 14))] ++ List.replicate 76 none
/-- What is known at the head of a turn. -/
def pcI : List E := [.bi .le (.c 0) (.v 4), .bi .le (.c 0) (.v 9), .bi .le (.bi .add (.v 9) (.c 1)) (.c (140737488355328 / 32 : Nat))]
/-- What is known where an instruction is at hand. -/
def pcB : List E := pcI ++ [.bi .lt (.v 4) (.v 1), .bi .le (.c 0) (.v 10), .bi .lt (.v 10) (.c 10), .bi .le (.c 0) (.v 11), .bi .lt (.v 11) (.c 10), .bi .le (.c 0) (.v 13)]

/-! ### What a way comes to -/
inductive Res where
  | next (b : Bool) (iv av : List (Nat × E))
  | halt (n : Int) (b : Bool) (iv av : List (Nat × E))
  deriving DecidableEq
def envOf (iv av : List (Nat × E)) (ρ : Env) : Env := ⟨fun i => (lk iv i (.v i)).n ρ, fun i => (lk av i (.av i)).a ρ, ρ.ov⟩
def mtb (tm0 tm : TM) (s : S) : Option (Bool × Sub) := match mt tm0 (sT false (.av 3) []) tm s with
  | some θ => if θ.id 0 = 0 ∧ θ.id 1 = 1 then some (false, θ) else none
  | none => match mt tm0 (sT true (.av 3) []) tm s with
    | some θ => if θ.id 0 = 0 ∧ θ.id 1 = 1 then some (true, θ) else none
    | none => none
def resOf : Out → Option Res
  | .nor tm s => (mtb tmT tm s).map fun p => .next p.1 p.2.iv p.2.av
  | .pan (.iface 75 (.agg [.int .i64 (.c n)])) s => (mtb [] [] s).map fun p => .halt n p.1 p.2.iv p.2.av
  | _ => none
def pcOf : Out → List E
  | .nor _ s | .exi _ _ s | .gto _ _ s | .ret _ s | .pan _ s | .bad s => s.pc

/-! ### The first part of a turn -/
def plain (iv av : List (Nat × E)) : Bool := iv.all (fun p => decide (p.2 = .v p.1)) && av.all (fun p => decide (p.2 = .av p.1))
def plain7 (iv av : List (Nat × E)) : Bool := iv.all (fun p => if p.1 = 7 then decide (p.2 = .v 4) else decide (p.2 = .v p.1)) && decide (lk iv 7 (.v 7) = .v 4) && av.all (fun p => decide (p.2 = .av p.1))
def okA1 (b : Bool) : Out → Bool
  | .nor tm s => (match mtb tmT tm s with
    | some (b', θ) => b' == b && plain7 θ.iv θ.av
    | none => false) && decide (E.bi .lt (.v 4) (.v 1) ∈ s.pc) && decide (E.un .not (.v 14) ∈ s.pc)
  | .exi id tm s => (match mtb tmT tm s with
    | some (b', θ) => b' == b && plain θ.iv θ.av
    | none => false) && id == 0 && decide (E.v 14 ∈ s.pc)
  | .pan (.iface 75 (.agg [.int .i64 (.c n)])) s => (match mtb [] [] s with
    | some (b', θ) => b' == b && plain7 θ.iv θ.av
    | none => false) && decide (n = 1) && decide (E.un .not (.bi .lt (.v 4) (.v 1)) ∈ s.pc) && decide (E.un .not (.v 14) ∈ s.pc)
  | _ => false
noncomputable def outA (b : Bool) : Option (List Out) := sxb Try.prog noK 200 headX headCs tmT (sT b (.av 3) pcI)
def okA (b : Bool) (o : Option (List Out)) : Bool := match o with
  | some l => l.all (okA1 b)
  | none => false

/-! ### The second part -/
def kOf (b : Bool) : E := if b = true then .v 9 else .c 0
def spec (b : Bool) (e : E) : Bool := decide (e = .get (.av 5) (kOf b) 0)
def un35 (b : Bool) (e : E) : Bool := e.only (spec b) (fun i => i != 3) (fun i => i != 5)
def at1 : E := .un (.wrap .i64) (.bi .add (.v 4) (.c 1))
def at2 : E := .un (.wrap .i64) (.bi .add (.v 4) (.un (.wrap .i64) (.bi .add (.c 1) (.v 12))))
/-- Neither the program, nor the context, nor the answers; at goes on; each call is one more. -/
def okIv (b : Bool) (op : Int) (go : Bool) (b' : Bool) (iv : List (Nat × E)) : Bool := iv.all fun p =>
  if p.1 < 4 then decide (p.2 = .v p.1)
  else un35 b p.2 && (if p.1 = 4 then if go = true then decide (p.2 = at1) || decide (19 ≤ op ∧ op ≤ 22 ∧ p.2 = at2) else decide (p.2 = .v 4)
    else if p.1 = 9 then decide (p.2 = .v 9) || decide (go = true ∧ op = 23 ∧ b = true ∧ p.2 = .bi .add (.v 9) (.c 1)) || decide (go = true ∧ op = 23 ∧ b = false ∧ b' = true ∧ p.2 = .c 1) else true)
def okAv (b : Bool) (op : Int) (av : List (Nat × E)) : Bool := decide (lk av 3 (.av 3) = insA op) && av.all fun p =>
  if p.1 = 3 then decide (p.2 = insA op) else if p.1 = 4 ∨ p.1 = 5 then decide (p.2 = .av p.1) else un35 b p.2
def okR (b : Bool) (op : Int) : Res → Bool
  | .next b' iv av => okIv b op true b' iv && okAv b op av && decide (lk iv 4 (.v 4) ≠ .v 4) && (b' || !b && decide (lk iv 9 (.v 9) = .v 9)) && (b || !b' || decide (op = 23))
      && decide (lk iv 14 (.v 14) = if op = 24 then .c 1 else .c 0) && (decide (op ≠ 23) || decide (lk iv 9 (.v 9) = .bi .add (.v 9) (.c 1)) || !b && decide (lk iv 9 (.v 9) = .c 1))
  | .halt _ b' iv av => okIv b op false b' iv && okAv b op av && b' == b && decide (lk iv 9 (.v 9) = .v 9) && decide (op ≠ 23)
def okPc (b : Bool) (op : Int) (e : E) : Bool := un35 b e || decide (op = 23 ∧ (e = .bi .lt (kOf b) (.v 3) ∨ e = .bi .le (.v 3) (kOf b)))
def okO (b : Bool) (op : Int) (o : Out) : Bool := (match resOf o with
  | some r => okR b op r
  | none => false) && (pcOf o).all (okPc b op)
def okPair (o o' : Out) : Bool := contra (pcOf o) (pcOf o') || decide (resOf o = resOf o')
noncomputable def outB (b : Bool) (op : Int) : Option (List Out) := sx Try.prog noK 200 codeB tmT (sT b (insA op) pcB)
def okB (b : Bool) (op : Int) (o : Option (List Out)) : Bool := match o with
  | some l => l.all (okO b op) && l.all fun o => l.all fun o' => okPair o o'
  | none => false
theorem named_ok : named Try.prog = true := by kernel_rfl
theorem mixed_ok : Try.prog.follows .mixedOrders = true := by kernel_rfl
end Go.Proofs.Ytfnekjeicdhihaa
