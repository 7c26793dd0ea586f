/- Run, told of small states: what it comes to. Printed by frames.py. -/
import Derived.Test.YtfnekjeicdhihaaVmX
namespace Go.Proofs.Ytfnekjeicdhihaa
open Go.SX

def r0L : List COut := [(COut.ret (V.tup [(V.agg [(V.int IntKind.i64 (E.c (0))), (V.int IntKind.i64 (E.c (0))), (V.int IntKind.i64 (E.c (0))), (V.int IntKind.u32 (E.c (0))), V.nils, (V.arr E.zz [(CK.int IntKind.u8)] (E.c (64)))]), (V.int IntKind.i64 (E.c (2)))]) ⟨[(E.bi O.le (E.c (0)) (E.v 2)), (E.bi O.le (E.v 2) (E.c (140737488355328))), (E.un U.not (E.bi O.eq (E.v 50) (E.c (0))))], 7, [⟨2, false, 43, false, false, none, [(V.arr (E.av 3) [(CK.int IntKind.i64), (CK.int IntKind.i64), (CK.int IntKind.i64), (CK.int IntKind.i64), (CK.int IntKind.u32)] (E.v 1))]⟩,
    ⟨3, false, 5, false, false, none, [(V.arr (E.av 4) [(CK.int IntKind.u8)] (E.v 2))]⟩,
    ⟨4, false, 30, false, false, none, [(V.arr (E.av 5) [(CK.int IntKind.u32)] (E.v 3))]⟩]⟩),
  (COut.ret (V.tup [(V.agg [(V.int IntKind.i64 (E.c (0))), (V.int IntKind.i64 (E.c (0))), (V.int IntKind.i64 (E.c (0))), (V.int IntKind.u32 (E.c (0))), V.nils, (V.arr E.zz [(CK.int IntKind.u8)] (E.c (64)))]), (V.int IntKind.i64 (E.c (2)))]) ⟨[(E.bi O.le (E.c (0)) (E.v 2)), (E.bi O.eq (E.v 50) (E.c (0))), (E.un U.not (E.bi O.eq (E.v 2) (E.v 0))), (E.bi O.le (E.v 2) (E.c (140737488355328)))], 7, [⟨2, false, 43, false, false, none, [(V.arr (E.av 3) [(CK.int IntKind.i64), (CK.int IntKind.i64), (CK.int IntKind.i64), (CK.int IntKind.i64), (CK.int IntKind.u32)] (E.v 1))]⟩,
    ⟨3, false, 5, false, false, none, [(V.arr (E.av 4) [(CK.int IntKind.u8)] (E.v 2))]⟩,
    ⟨4, false, 30, false, false, none, [(V.arr (E.av 5) [(CK.int IntKind.u32)] (E.v 3))]⟩]⟩),
  (COut.ret (V.tup [(V.agg [(V.int IntKind.i64 (E.v 65)), (V.int IntKind.i64 (E.v 66)), (V.int IntKind.i64 (E.v 67)), (V.int IntKind.u32 (E.v 68)), V.nils, (V.arr (E.av 22) [(CK.int IntKind.u8)] (E.c (64)))]), (V.int IntKind.i64 (E.c (0)))]) ⟨[(E.v 51), (E.bi O.eq (E.v 2) (E.v 0)), (E.un U.not (E.v 49)), (E.bi O.le (E.c (0)) (E.v 2)), (E.bi O.eq (E.v 50) (E.c (0))), (E.bi O.le (E.v 2) (E.c (140737488355328)))], 7, [⟨2, false, 43, false, false, none, [(V.arr (E.av 3) [(CK.int IntKind.i64), (CK.int IntKind.i64), (CK.int IntKind.i64), (CK.int IntKind.i64), (CK.int IntKind.u32)] (E.v 1))]⟩,
    ⟨3, false, 5, false, false, none, [(V.arr (E.av 4) [(CK.int IntKind.u8)] (E.v 2))]⟩,
    ⟨4, false, 30, false, false, none, [(V.arr (E.av 5) [(CK.int IntKind.u32)] (E.v 3))]⟩]⟩),
  (COut.ret (V.tup [(V.agg [(V.int IntKind.i64 (E.v 65)), (V.int IntKind.i64 (E.v 66)), (V.int IntKind.i64 (E.v 67)), (V.int IntKind.u32 (E.v 68)), (V.slice 7 0 0 (E.c (0)) (E.v 69) (Cap.s 8)), (V.arr (E.av 22) [(CK.int IntKind.u8)] (E.c (64)))]), (V.int IntKind.i64 (E.c (0)))]) ⟨[(E.v 49), (E.v 51), (E.bi O.eq (E.v 2) (E.v 0)), (E.bi O.le (E.c (0)) (E.v 2)), (E.bi O.eq (E.v 50) (E.c (0))), (E.bi O.le (E.v 2) (E.c (140737488355328)))], 9, [⟨2, false, 43, false, false, none, [(V.arr (E.av 3) [(CK.int IntKind.i64), (CK.int IntKind.i64), (CK.int IntKind.i64), (CK.int IntKind.i64), (CK.int IntKind.u32)] (E.v 1))]⟩,
    ⟨3, false, 5, false, false, none, [(V.arr (E.av 4) [(CK.int IntKind.u8)] (E.v 2))]⟩,
    ⟨4, false, 30, false, false, none, [(V.arr (E.av 5) [(CK.int IntKind.u32)] (E.v 3))]⟩,
    ⟨7, true, 55, false, true, (Option.some (8, 6)), [(V.arr (E.av 26) [(CK.int IntKind.i64), (CK.int IntKind.u32), (CK.int IntKind.u32), (CK.int IntKind.u32), (CK.int IntKind.u32), (CK.int IntKind.u32)] (E.v 69))]⟩]⟩)]
theorem r0L_ok : k6 6 (rArgs (.ms 2 4 (.v 3))) S0 = some r0L := by kernel_rfl
def r0 : CallF := frameK 6 (rArgs (.ms 2 4 (.v 3))) S0 r0L true
def r1L : List COut := [(COut.ret (V.tup [(V.agg [(V.int IntKind.i64 (E.v 65)), (V.int IntKind.i64 (E.v 66)), (V.int IntKind.i64 (E.v 67)), (V.int IntKind.u32 (E.v 68)), V.nils, (V.arr (E.av 22) [(CK.int IntKind.u8)] (E.c (64)))]), (V.int IntKind.i64 (E.c (0)))]) ⟨[(E.v 51), (E.bi O.le (E.v 3) (E.c (0))), (E.bi O.eq (E.v 2) (E.v 0)), (E.un U.not (E.v 49)), (E.bi O.le (E.c (0)) (E.v 2)), (E.bi O.eq (E.v 50) (E.c (0))), (E.bi O.le (E.v 2) (E.c (140737488355328)))], 7, [⟨2, false, 43, false, false, none, [(V.arr (E.av 3) [(CK.int IntKind.i64), (CK.int IntKind.i64), (CK.int IntKind.i64), (CK.int IntKind.i64), (CK.int IntKind.u32)] (E.v 1))]⟩,
    ⟨3, false, 5, false, false, none, [(V.arr (E.av 4) [(CK.int IntKind.u8)] (E.v 2))]⟩,
    ⟨4, false, 30, false, false, none, [(V.arr (E.av 5) [(CK.int IntKind.u32)] (E.v 3))]⟩]⟩)]
theorem r1L_ok : k6 6 (rArgs .nils) S1 = some r1L := by kernel_rfl
def r1 : CallF := frameK 6 (rArgs .nils) S1 r1L true
def r2L : List COut := [(COut.ret (V.tup [(V.agg [(V.int IntKind.i64 (E.v 65)), (V.int IntKind.i64 (E.v 66)), (V.int IntKind.i64 (E.v 67)), (V.int IntKind.u32 (E.v 68)), (V.slice 7 0 0 (E.c (0)) (E.v 69) (Cap.s 8)), (V.arr (E.av 22) [(CK.int IntKind.u8)] (E.c (64)))]), (V.int IntKind.i64 (E.c (0)))]) ⟨[(E.v 49), (E.v 51), (E.bi O.le (E.v 3) (E.c (0))), (E.bi O.eq (E.v 2) (E.v 0)), (E.bi O.le (E.c (0)) (E.v 2)), (E.bi O.eq (E.v 50) (E.c (0))), (E.bi O.le (E.v 2) (E.c (140737488355328))), (E.bi O.le (E.v 69) (E.v 3))], 9, [⟨2, false, 43, false, false, none, [(V.arr (E.av 3) [(CK.int IntKind.i64), (CK.int IntKind.i64), (CK.int IntKind.i64), (CK.int IntKind.i64), (CK.int IntKind.u32)] (E.v 1))]⟩,
    ⟨3, false, 5, false, false, none, [(V.arr (E.av 4) [(CK.int IntKind.u8)] (E.v 2))]⟩,
    ⟨4, false, 30, false, false, none, [(V.arr (E.av 5) [(CK.int IntKind.u32)] (E.v 3))]⟩,
    ⟨7, true, 55, false, true, (Option.some (8, 6)), [(V.arr (E.av 26) [(CK.int IntKind.i64), (CK.int IntKind.u32), (CK.int IntKind.u32), (CK.int IntKind.u32), (CK.int IntKind.u32), (CK.int IntKind.u32)] (E.v 69))]⟩]⟩)]
theorem r2L_ok : k6 6 (rArgs .nils) S2 = some r2L := by kernel_rfl
def r2 : CallF := frameK 6 (rArgs .nils) S2 r2L true
def r3L : List COut := [(COut.ret (V.tup [(V.agg [(V.int IntKind.i64 (E.v 65)), (V.int IntKind.i64 (E.v 66)), (V.int IntKind.i64 (E.v 67)), (V.int IntKind.u32 (E.v 68)), V.nils, (V.arr (E.av 22) [(CK.int IntKind.u8)] (E.c (64)))]), (V.int IntKind.i64 (E.c (0)))]) ⟨[(E.v 51), (E.bi O.eq (E.v 2) (E.v 0)), (E.un U.not (E.v 49)), (E.bi O.le (E.c (0)) (E.v 2)), (E.bi O.eq (E.v 50) (E.c (0))), (E.bi O.le (E.v 2) (E.c (140737488355328)))], 7, [⟨2, false, 43, false, false, none, [(V.arr (E.av 3) [(CK.int IntKind.i64), (CK.int IntKind.i64), (CK.int IntKind.i64), (CK.int IntKind.i64), (CK.int IntKind.u32)] (E.v 1))]⟩,
    ⟨3, false, 5, false, false, none, [(V.arr (E.av 4) [(CK.int IntKind.u8)] (E.v 2))]⟩,
    ⟨4, false, 30, false, false, none, [(V.arr (E.av 5) [(CK.int IntKind.u32)] (E.v 3))]⟩,
    ⟨5, false, 30, false, false, none, [(V.arr (E.av 5) [(CK.int IntKind.u32)] (E.v 3))]⟩]⟩)]
theorem r3L_ok : k6 6 (rArgs YS.a.V3) (S3 .a) = some r3L := by kernel_rfl
def r3 : CallF := frameK 6 (rArgs YS.a.V3) (S3 .a) r3L true
def r4L : List COut := [(COut.ret (V.tup [(V.agg [(V.int IntKind.i64 (E.v 65)), (V.int IntKind.i64 (E.v 66)), (V.int IntKind.i64 (E.v 67)), (V.int IntKind.u32 (E.v 68)), (V.slice 7 0 0 (E.c (0)) (E.v 69) (Cap.s 8)), (V.arr (E.av 22) [(CK.int IntKind.u8)] (E.c (64)))]), (V.int IntKind.i64 (E.c (0)))]) ⟨[(E.v 49), (E.v 51), (E.bi O.eq (E.v 2) (E.v 0)), (E.bi O.le (E.c (0)) (E.v 2)), (E.bi O.eq (E.v 50) (E.c (0))), (E.bi O.le (E.v 2) (E.c (140737488355328))), (E.bi O.le (E.v 69) (E.v 3))], 9, [⟨2, false, 43, false, false, none, [(V.arr (E.av 3) [(CK.int IntKind.i64), (CK.int IntKind.i64), (CK.int IntKind.i64), (CK.int IntKind.i64), (CK.int IntKind.u32)] (E.v 1))]⟩,
    ⟨3, false, 5, false, false, none, [(V.arr (E.av 4) [(CK.int IntKind.u8)] (E.v 2))]⟩,
    ⟨4, false, 30, false, false, none, [(V.arr (E.av 5) [(CK.int IntKind.u32)] (E.v 3))]⟩,
    ⟨5, false, 30, false, false, none, [(V.arr (E.av 5) [(CK.int IntKind.u32)] (E.v 3))]⟩,
    ⟨7, true, 55, false, true, (Option.some (8, 6)), [(V.arr (E.av 26) [(CK.int IntKind.i64), (CK.int IntKind.u32), (CK.int IntKind.u32), (CK.int IntKind.u32), (CK.int IntKind.u32), (CK.int IntKind.u32)] (E.v 69))]⟩]⟩)]
theorem r4L_ok : k6 6 (rArgs YS.a.V3) (S4 .a) = some r4L := by kernel_rfl
def r4 : CallF := frameK 6 (rArgs YS.a.V3) (S4 .a) r4L true
def r5L : List COut := [(COut.ret (V.tup [(V.agg [(V.int IntKind.i64 (E.v 65)), (V.int IntKind.i64 (E.v 66)), (V.int IntKind.i64 (E.v 67)), (V.int IntKind.u32 (E.v 68)), V.nils, (V.arr (E.av 22) [(CK.int IntKind.u8)] (E.c (64)))]), (V.int IntKind.i64 (E.c (0)))]) ⟨[(E.v 51), (E.bi O.le (E.v 3) (E.c (0))), (E.bi O.eq (E.v 2) (E.v 0)), (E.un U.not (E.v 49)), (E.bi O.le (E.c (0)) (E.v 2)), (E.bi O.eq (E.v 50) (E.c (0))), (E.bi O.le (E.v 2) (E.c (140737488355328)))], 7, [⟨2, false, 43, false, false, none, [(V.arr (E.av 3) [(CK.int IntKind.i64), (CK.int IntKind.i64), (CK.int IntKind.i64), (CK.int IntKind.i64), (CK.int IntKind.u32)] (E.v 1))]⟩,
    ⟨3, false, 5, false, false, none, [(V.arr (E.av 4) [(CK.int IntKind.u8)] (E.v 2))]⟩,
    ⟨4, false, 30, false, false, none, [(V.arr (E.av 5) [(CK.int IntKind.u32)] (E.v 3))]⟩,
    ⟨5, false, 30, false, false, none, [(V.arr (E.av 7) [(CK.int IntKind.u32)] (E.v 47))]⟩]⟩)]
theorem r5L_ok : k6 6 (rArgs YS.b.V3) (S3 .b) = some r5L := by kernel_rfl
def r5 : CallF := frameK 6 (rArgs YS.b.V3) (S3 .b) r5L true
def r6L : List COut := [(COut.ret (V.tup [(V.agg [(V.int IntKind.i64 (E.v 65)), (V.int IntKind.i64 (E.v 66)), (V.int IntKind.i64 (E.v 67)), (V.int IntKind.u32 (E.v 68)), (V.slice 7 0 0 (E.c (0)) (E.v 69) (Cap.s 8)), (V.arr (E.av 22) [(CK.int IntKind.u8)] (E.c (64)))]), (V.int IntKind.i64 (E.c (0)))]) ⟨[(E.v 49), (E.v 51), (E.bi O.le (E.v 3) (E.c (0))), (E.bi O.eq (E.v 2) (E.v 0)), (E.bi O.le (E.c (0)) (E.v 2)), (E.bi O.eq (E.v 50) (E.c (0))), (E.bi O.le (E.v 2) (E.c (140737488355328))), (E.bi O.le (E.v 69) (E.v 3))], 9, [⟨2, false, 43, false, false, none, [(V.arr (E.av 3) [(CK.int IntKind.i64), (CK.int IntKind.i64), (CK.int IntKind.i64), (CK.int IntKind.i64), (CK.int IntKind.u32)] (E.v 1))]⟩,
    ⟨3, false, 5, false, false, none, [(V.arr (E.av 4) [(CK.int IntKind.u8)] (E.v 2))]⟩,
    ⟨4, false, 30, false, false, none, [(V.arr (E.av 5) [(CK.int IntKind.u32)] (E.v 3))]⟩,
    ⟨5, false, 30, false, false, none, [(V.arr (E.av 7) [(CK.int IntKind.u32)] (E.v 47))]⟩,
    ⟨7, true, 55, false, true, (Option.some (8, 6)), [(V.arr (E.av 26) [(CK.int IntKind.i64), (CK.int IntKind.u32), (CK.int IntKind.u32), (CK.int IntKind.u32), (CK.int IntKind.u32), (CK.int IntKind.u32)] (E.v 69))]⟩]⟩)]
theorem r6L_ok : k6 6 (rArgs YS.b.V3) (S4 .b) = some r6L := by kernel_rfl
def r6 : CallF := frameK 6 (rArgs YS.b.V3) (S4 .b) r6L true
def r7L : List COut := [(COut.ret (V.tup [(V.agg [(V.int IntKind.i64 (E.v 65)), (V.int IntKind.i64 (E.v 66)), (V.int IntKind.i64 (E.v 67)), (V.int IntKind.u32 (E.v 68)), V.nils, (V.arr (E.av 22) [(CK.int IntKind.u8)] (E.c (64)))]), (V.int IntKind.i64 (E.c (0)))]) ⟨[(E.v 51), (E.bi O.eq (E.v 2) (E.v 0)), (E.un U.not (E.v 49)), (E.bi O.le (E.c (0)) (E.v 2)), (E.bi O.eq (E.v 50) (E.c (0))), (E.bi O.le (E.v 2) (E.c (140737488355328)))], 7, [⟨2, false, 43, false, false, none, [(V.arr (E.av 3) [(CK.int IntKind.i64), (CK.int IntKind.i64), (CK.int IntKind.i64), (CK.int IntKind.i64), (CK.int IntKind.u32)] (E.v 1))]⟩,
    ⟨3, false, 5, false, false, none, [(V.arr (E.av 4) [(CK.int IntKind.u8)] (E.v 2))]⟩,
    ⟨4, false, 30, false, false, none, [(V.arr (E.av 5) [(CK.int IntKind.u32)] (E.v 3))]⟩,
    ⟨5, false, 30, false, false, none, [(V.arr (E.av 5) [(CK.int IntKind.u32)] (E.v 3)), (V.arr (E.av 7) [(CK.int IntKind.u32)] (E.v 47))]⟩]⟩)]
theorem r7L_ok : k6 6 (rArgs YS.ab.V3) (S3 .ab) = some r7L := by kernel_rfl
def r7 : CallF := frameK 6 (rArgs YS.ab.V3) (S3 .ab) r7L true
def r8L : List COut := [(COut.ret (V.tup [(V.agg [(V.int IntKind.i64 (E.v 65)), (V.int IntKind.i64 (E.v 66)), (V.int IntKind.i64 (E.v 67)), (V.int IntKind.u32 (E.v 68)), (V.slice 7 0 0 (E.c (0)) (E.v 69) (Cap.s 8)), (V.arr (E.av 22) [(CK.int IntKind.u8)] (E.c (64)))]), (V.int IntKind.i64 (E.c (0)))]) ⟨[(E.v 49), (E.v 51), (E.bi O.eq (E.v 2) (E.v 0)), (E.bi O.le (E.c (0)) (E.v 2)), (E.bi O.eq (E.v 50) (E.c (0))), (E.bi O.le (E.v 2) (E.c (140737488355328))), (E.bi O.le (E.v 69) (E.v 3))], 9, [⟨2, false, 43, false, false, none, [(V.arr (E.av 3) [(CK.int IntKind.i64), (CK.int IntKind.i64), (CK.int IntKind.i64), (CK.int IntKind.i64), (CK.int IntKind.u32)] (E.v 1))]⟩,
    ⟨3, false, 5, false, false, none, [(V.arr (E.av 4) [(CK.int IntKind.u8)] (E.v 2))]⟩,
    ⟨4, false, 30, false, false, none, [(V.arr (E.av 5) [(CK.int IntKind.u32)] (E.v 3))]⟩,
    ⟨5, false, 30, false, false, none, [(V.arr (E.av 5) [(CK.int IntKind.u32)] (E.v 3)), (V.arr (E.av 7) [(CK.int IntKind.u32)] (E.v 47))]⟩,
    ⟨7, true, 55, false, true, (Option.some (8, 6)), [(V.arr (E.av 26) [(CK.int IntKind.i64), (CK.int IntKind.u32), (CK.int IntKind.u32), (CK.int IntKind.u32), (CK.int IntKind.u32), (CK.int IntKind.u32)] (E.v 69))]⟩]⟩)]
theorem r8L_ok : k6 6 (rArgs YS.ab.V3) (S4 .ab) = some r8L := by kernel_rfl
def r8 : CallF := frameK 6 (rArgs YS.ab.V3) (S4 .ab) r8L true

/-- The first of the contracts that answers. -/
def firstC : List CallF → CallF
  | [] => fun _ _ _ => none
  | k :: ks => fun f vs s => match k f vs s with
    | some l => some l
    | none => firstC ks f vs s
theorem firstC_ok {ρ : Env} {P : Program} : ∀ {ks : List CallF}, (∀ k ∈ ks, CallOK ρ P k) → CallOK ρ P (firstC ks)
  | [], _ => fun _ _ _ _ _ h => nomatch h
  | k :: ks, h => by
    intro W0 f vs s l hl hn σ w xs g hv
    simp only [firstC] at hl
    split at hl
    · rename_i l' hk
      cases hl
      exact h k List.mem_cons_self W0 f vs s l hk hn σ w xs g hv
    · exact firstC_ok (fun k hk => h k (List.mem_cons_of_mem _ hk)) W0 f vs s l hl hn σ w xs g hv
def kLaw : CallF := firstC [r0, r1, r2, r3, r4, r5, r6, r7, r8, fun f vs s => if f = 7 then k7 vs s else none, k7n, k5]
theorem k6_ok {ρ : Env} (h : CallOK ρ Try.prog kRun) : CallOK ρ Try.prog k6 := coarseC_ok (callX_ok h named_ok mixed_ok 200)
theorem kLaw_ok {ρ : Env} (h : CallOK ρ Try.prog kRun) (h69 : ρ.iv 69 ≤ 1000000) : CallOK ρ Try.prog kLaw := by
  have hk := k6_ok h
  refine firstC_ok fun k hm => ?_
  simp only [List.mem_cons, List.not_mem_nil, or_false] at hm
  rcases hm with rfl | rfl | rfl | rfl | rfl | rfl | rfl | rfl | rfl | rfl | rfl | rfl
  · exact frame_of (fun ρ' he => by rw [he rfl]; exact hk) r0L_ok rfl
  · exact frame_of (fun ρ' he => by rw [he rfl]; exact hk) r1L_ok rfl
  · exact frame_of (fun ρ' he => by rw [he rfl]; exact hk) r2L_ok rfl
  · exact frame_of (fun ρ' he => by rw [he rfl]; exact hk) r3L_ok rfl
  · exact frame_of (fun ρ' he => by rw [he rfl]; exact hk) r4L_ok rfl
  · exact frame_of (fun ρ' he => by rw [he rfl]; exact hk) r5L_ok rfl
  · exact frame_of (fun ρ' he => by rw [he rfl]; exact hk) r6L_ok rfl
  · exact frame_of (fun ρ' he => by rw [he rfl]; exact hk) r7L_ok rfl
  · exact frame_of (fun ρ' he => by rw [he rfl]; exact hk) r8L_ok rfl
  · intro W0 f vs s l hl _ σ w xs g hv
    dsimp only at hl
    split at hl
    case isFalse => cases hl
    rename_i hf
    subst hf
    refine ⟨?_, k7_ok h69 W0 vs s l hl σ w xs g hv⟩
    have hn : ¬ Try.f7.name = "runtime.NumGoroutine" := by decide
    simp [callFunc, Try.func7, hn, sr_code]
  · exact k7n_ok ρ
  · exact k5_ok ρ
end Go.Proofs.Ytfnekjeicdhihaa
