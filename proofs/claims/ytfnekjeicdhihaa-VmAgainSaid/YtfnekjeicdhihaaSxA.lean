/- A symbolic executor for the machine's programs, part A: expressions, values, rows of cells, and what they stand for. -/
import Derived.Laws.CopyRow
import Derived.Orders
import Derived.KernelRfl
namespace Go.SX

inductive U where | not | wrap (k : IntKind) | neg
  deriving DecidableEq
inductive O where
  | add | sub | mul | quo | rem | lt | le | eq | and | or | band (k : IntKind) | bor (k : IntKind) | bxor (k : IntKind) | shl (k : IntKind) | shr (k : IntKind) | mn | mx
  deriving DecidableEq

inductive E where
  | c (n : Int) | v (i : Nat) | un (o : U) (a : E) | bi (o : O) (a b : E) | te (x a b : E)
  | av (i : Nat) | zz | set (a i : E) (col : Nat) (x : E) | get (a i : E) (col : Nat)
  deriving DecidableEq

def U.den : U → Int → Int
  | .not, x => if x = 0 then 1 else 0
  | .wrap k, x => k.wrap x
  | .neg, x => -x

def O.den : O → Int → Int → Int
  | .add, x, y => x + y
  | .sub, x, y => x - y
  | .mul, x, y => x * y
  | .quo, x, y => x.tdiv y
  | .rem, x, y => x.tmod y
  | .lt, x, y => if x < y then 1 else 0
  | .le, x, y => if x ≤ y then 1 else 0
  | .eq, x, y => if x = y then 1 else 0
  | .and, x, y => if x ≠ 0 ∧ y ≠ 0 then 1 else 0
  | .or, x, y => if x ≠ 0 ∨ y ≠ 0 then 1 else 0
  | .band k, x, y => (BitVec.ofInt k.bits x &&& BitVec.ofInt k.bits y).toNat
  | .bor k, x, y => (BitVec.ofInt k.bits x ||| BitVec.ofInt k.bits y).toNat
  | .bxor k, x, y => (BitVec.ofInt k.bits x ^^^ BitVec.ofInt k.bits y).toNat
  | .shl k, x, y => x * 2 ^ (min y.toNat k.bits)
  | .shr k, x, y => x.fdiv (2 ^ (min y.toNat k.bits))
  | .mn, x, y => if y < x then y else x
  | .mx, x, y => if y > x then y else x

/-- What variables stand for. -/
structure Env where
  iv : Nat → Int
  av : Nat → Int → Nat → Int
  ov : Nat → Value

def E.den (ρ : Env) : E → Int × (Int → Nat → Int)
  | .c n => (n, fun _ _ => 0)
  | .v i => (ρ.iv i, fun _ _ => 0)
  | .un o a => (o.den (a.den ρ).1, fun _ _ => 0)
  | .bi o a b => (o.den (a.den ρ).1 (b.den ρ).1, fun _ _ => 0)
  | .te x a b => (if (x.den ρ).1 ≠ 0 then (a.den ρ).1 else (b.den ρ).1, fun _ _ => 0)
  | .av i => (0, ρ.av i)
  | .zz => (0, fun _ _ => 0)
  | .set a i col x => (0, fun r k => if r = (i.den ρ).1 ∧ k = col then (x.den ρ).1 else (a.den ρ).2 r k)
  | .get a i col => ((a.den ρ).2 (i.den ρ).1 col, fun _ _ => 0)

def E.n (ρ : Env) (e : E) : Int := (e.den ρ).1
def E.a (ρ : Env) (e : E) : Int → Nat → Int := (e.den ρ).2

section
variable (ρ : Env)
theorem E.n_c (n : Int) : (E.c n).n ρ = n := rfl
theorem E.n_v (i : Nat) : (E.v i).n ρ = ρ.iv i := rfl
theorem E.n_un (o : U) (a : E) : (E.un o a).n ρ = o.den (a.n ρ) := rfl
theorem E.n_bi (o : O) (a b : E) : (E.bi o a b).n ρ = o.den (a.n ρ) (b.n ρ) := rfl
theorem E.n_te (x a b : E) : (E.te x a b).n ρ = if x.n ρ ≠ 0 then a.n ρ else b.n ρ := rfl
theorem E.n_get (a i : E) (k : Nat) : (E.get a i k).n ρ = a.a ρ (i.n ρ) k := rfl
theorem E.a_av (i : Nat) : (E.av i).a ρ = ρ.av i := rfl
theorem E.a_zz : E.zz.a ρ = fun _ _ => 0 := rfl
theorem E.a_set (a i : E) (col : Nat) (x : E) : (E.set a i col x).a ρ = fun r k => if r = i.n ρ ∧ k = col then x.n ρ else a.a ρ r k := rfl
end

/-! ### Made simpler where all is known -/
def mkU (o : U) (a : E) : E := match a with
  | .c n => .c (o.den n)
  | a => .un o a
def mkB0 (o : O) (a b : E) : E := match a, b with
  | .c m, .c n => .c (o.den m n)
  | a, b => .bi o a b
def mkB (o : O) (a b : E) : E := match o, b with
  | .add, .c 0 => a
  | .sub, .c 0 => a
  | .eq, b => if a = b then .c 1 else mkB0 .eq a b
  | _, _ => mkB0 o a b
/-- The opposite, as a test. -/
def neg (e : E) : E := match e with
  | .c n => .c (if n = 0 then 1 else 0)
  | .un .not a => a
  | .bi .lt a b => .bi .le b a
  | .bi .le a b => .bi .lt b a
  | e => .un .not e

theorem mkU_n (ρ : Env) (o : U) (a : E) : (mkU o a).n ρ = o.den (a.n ρ) := by
  unfold mkU; split <;> rfl
theorem mkB0_n (ρ : Env) (o : O) (a b : E) : (mkB0 o a b).n ρ = o.den (a.n ρ) (b.n ρ) := by
  unfold mkB0; split <;> rfl
theorem mkB_n (ρ : Env) (o : O) (a b : E) : (mkB o a b).n ρ = o.den (a.n ρ) (b.n ρ) := by
  unfold mkB; split
  · simp [E.n_c, O.den]
  · simp [E.n_c, O.den]
  · split
    · rename_i h; subst h; simp [E.n_c, O.den]
    · exact mkB0_n ρ _ a b
  · exact mkB0_n ρ _ a b
theorem neg_n (ρ : Env) (e : E) : (neg e).n ρ ≠ 0 ↔ e.n ρ = 0 := by
  unfold neg; split
  · simp only [E.n_c]; split <;> simp [*]
  · simp only [E.n_un, U.den]; split <;> simp [*]
  · simp only [E.n_bi, O.den]; split <;> split <;> simp <;> omega
  · simp only [E.n_bi, O.den]; split <;> split <;> simp <;> omega
  · simp only [E.n_un, U.den]; split <;> simp [*]

/-! ### Values -/
inductive CK where | int (k : IntKind) | bool
  deriving DecidableEq
def CK.mk : CK → Int → Value
  | .int k, n => .int k n
  | .bool, n => .bool (n != 0)
inductive Cap where | e (x : E) | s (i : Nat)
  deriving DecidableEq

/-- A value as the executor has it. 'ptr b c s i': into block number b of ours, at c + s * i. 'arr': cells of a row of rows. -/
inductive V where
  | int (k : IntKind) (e : E)
  | bool (e : E)
  | ptr (b c s : Nat) (i : E)
  | nilp
  | slice (b c s : Nat) (i : E) (len : E) (cap : Cap)
  | nils
  | ms (o b : Nat) (len : E)
  | fn (f : Nat) (cs : List V)
  | nilf
  | iface (t : Nat) (v : V)
  | nili
  | str (s : ByteArray)
  | bs (a n : E)
  | mapr (b : Nat)
  | nilm
  | ov (i : Nat)
  | agg (l : List V)
  | tup (l : List V)
  | arr (a : E) (ks : List CK) (n : E)

abbrev Sig := List (Nat × Nat)

def natOf (ρ : Env) (e : E) : Option Nat := if 0 ≤ e.n ρ then some (e.n ρ).toNat else none
def addrOf (ρ : Env) (σ : Sig) (b c s : Nat) (i : E) : Option Addr :=
  match σ[b]? with
  | some (k, o) => if s = 0 then some ⟨k, o + c, none⟩ else (natOf ρ i).map fun n => ⟨k, o + (c + s * n), none⟩
  | none => none
def capOf (ρ : Env) (σ : Sig) : Cap → Option Nat
  | .e x => natOf ρ x
  | .s i => (σ[i]?).map (·.1)

/-- A slice that may be nil: the value number o; if it is none it is empty, else it lies at the begin of block number b. -/
def msOf (ρ : Env) (σ : Sig) (o b : Nat) (len : E) : Option Value := match ρ.ov o, σ[b]? with
  | .slice none 0 0, some _ => if len.n ρ = 0 then some (.slice none 0 0) else none
  | .slice (some a) n c, some (k, q) => if a = ⟨k, q, none⟩ ∧ (n : Int) = len.n ρ then some (.slice (some a) n c) else none
  | _, _ => none
/-- A string of bytes of a row. -/
def bytesOf (f : Int → Nat → Int) (n : Nat) : ByteArray := ((List.range n).map fun i => f (i : Nat) 0).foldl (fun r n => r.push (UInt8.ofNat n.toNat)) ByteArray.empty
def arrCell (f : Int → Nat → Int) (ks : List CK) (p : Nat) : Value := (ks.getD (p % ks.length) .bool).mk (f (p / ks.length : Nat) (p % ks.length))
def arrCells (f : Int → Nat → Int) (ks : List CK) (n : Nat) : List Value := (List.range (n * ks.length)).map (arrCell f ks)

mutual
def V.val (ρ : Env) (σ : Sig) : V → Option Value
  | .int k e => some (.int k (e.n ρ))
  | .bool e => some (.bool (e.n ρ != 0))
  | .ptr b c s i => (addrOf ρ σ b c s i).map fun a => .pointer (some a)
  | .nilp => some (.pointer none)
  | .slice b c s i len cap => match addrOf ρ σ b c s i, natOf ρ len, capOf ρ σ cap with
    | some a, some n, some m => some (.slice (some a) n m)
    | _, _, _ => none
  | .nils => some (.slice none 0 0)
  | .ms o b len => msOf ρ σ o b len
  | .fn f cs => (valL ρ σ cs).map fun l => .func (.func f) #[] l.toArray
  | .nilf => some .nilFunc
  | .iface t v => (v.val ρ σ).map fun x => .iface t x
  | .nili => some .nilIface
  | .str s => some (.string s)
  | .bs a n => (natOf ρ n).map fun n => .string (bytesOf (a.a ρ) n)
  | .mapr b => (σ[b]?).map fun x => .map (some x.1)
  | .nilm => some (.map none)
  | .ov i => if (ρ.ov i).oneCell' then some (ρ.ov i) else none
  | .agg l => (cellsL ρ σ l).map fun cs => .agg cs.toArray
  | .tup l => (valL ρ σ l).map fun cs => .tuple cs.toArray
  | .arr _ _ _ => none
def valL (ρ : Env) (σ : Sig) : List V → Option (List Value)
  | [] => some []
  | x :: xs => match x.val ρ σ, valL ρ σ xs with
    | some v, some l => some (v :: l)
    | _, _ => none
def cellsL (ρ : Env) (σ : Sig) : List V → Option (List Value)
  | [] => some []
  | x :: xs => match x.cells ρ σ, cellsL ρ σ xs with
    | some v, some l => some (v ++ l)
    | _, _ => none
def V.cells (ρ : Env) (σ : Sig) : V → Option (List Value)
  | .agg l => cellsL ρ σ l
  | .tup _ => none
  | .arr a ks n => (natOf ρ n).map fun n => arrCells (a.a ρ) ks n
  | .int k e => some [.int k (e.n ρ)]
  | .bool e => some [.bool (e.n ρ != 0)]
  | .ptr b c s i => (addrOf ρ σ b c s i).map fun a => [.pointer (some a)]
  | .nilp => some [.pointer none]
  | .slice b c s i len cap => match addrOf ρ σ b c s i, natOf ρ len, capOf ρ σ cap with
    | some a, some n, some m => some [.slice (some a) n m]
    | _, _, _ => none
  | .nils => some [.slice none 0 0]
  | .ms o b len => (msOf ρ σ o b len).map fun x => [x]
  | .fn f cs => (valL ρ σ cs).map fun l => [.func (.func f) #[] l.toArray]
  | .nilf => some [.nilFunc]
  | .iface t v => (v.val ρ σ).map fun x => [.iface t x]
  | .nili => some [.nilIface]
  | .str s => some [.string s]
  | .bs a n => (natOf ρ n).map fun n => [.string (bytesOf (a.a ρ) n)]
  | .mapr b => (σ[b]?).map fun x => [.map (some x.1)]
  | .nilm => some [.map none]
  | .ov i => if (ρ.ov i).oneCell' then some [ρ.ov i] else none
end

/-- One cell each, but for these. -/
def V.wide : V → Bool
  | .agg _ | .tup _ | .arr _ _ _ => true
  | _ => false

theorem V.cells_one (ρ : Env) (σ : Sig) (x : V) (h : x.wide = false) : x.cells ρ σ = (x.val ρ σ).map fun v => [v] := by
  cases x <;> simp [V.wide] at h <;> simp only [V.cells, V.val, Option.map_some, Option.map_map, Function.comp_def]
  case slice => split <;> rename_i h <;> simp [h] <;> (split <;> simp_all)
  case ov => split <;> simp
end Go.SX
