/- Run, told of small states. -/
import Derived.Test.YtfnekjeicdhihaaVmW
namespace Go.Proofs.Ytfnekjeicdhihaa
open Go.SX

def keepR (_ : S) (e : E) : Bool := !(decide (e = .bi .le (.v 2) (.c 0)) || decide (e = .bi .lt (.c 0) (.v 2)))
noncomputable def k6 : CallF := coarseC keepR (callX Try.prog kRun 200)
def rArgs (Y : V) : List V := [.agg [.int .i64 (.v 0), .ms 0 2 (.v 1)], .ms 1 3 (.v 2), Y]
def rS (extra : List E) (more : List Chunk) : S := ⟨extra ++ [.bi .le (.c 0) (.v 2), .bi .le (.v 2) (.c 140737488355328)], 7,
  [⟨2, false, 43, false, false, none, [.arr (.av 3) insKs (.v 1)]⟩, ⟨3, false, 5, false, false, none, [.arr (.av 4) [.int .u8] (.v 2)]⟩, ⟨4, false, 30, false, false, none, [.arr (.av 5) [.int .u32] (.v 3)]⟩] ++ more⟩
def rEq : List E := [.bi .eq (.v 2) (.v 0), .bi .eq (.v 50) (.c 0), .v 51]
def rNo : List E := [.un .not (.v 49)]
def rYes : List E := [.v 49, .bi .le (.v 69) (.v 3)]
def rZ : List E := [.bi .le (.v 3) (.c 0)]
def rY (ys : YS) : List Chunk := [⟨5, false, 30, false, false, none, ys.ds⟩]
def S0 : S := rS [] []
def S1 : S := rS (rZ ++ rNo ++ rEq) []
def S2 : S := rS (rZ ++ rYes ++ rEq) []
def YS.V3 : YS → V
  | .a => .slice 5 0 0 (.c 0) (.v 3) (.s 6)
  | .b => .slice 5 0 0 (.c 0) (.v 47) (.s 6)
  | .ab => .slice 5 0 0 (.c 0) (.bi .add (.v 3) (.v 47)) (.s 6)
  | _ => .nils
def YS.Z : YS → List E
  | .b => rZ
  | _ => []
def S3 (ys : YS) : S := rS (ys.Z ++ rNo ++ rEq) (rY ys)
def S4 (ys : YS) : S := rS (ys.Z ++ rYes ++ rEq) (rY ys)
end Go.Proofs.Ytfnekjeicdhihaa
