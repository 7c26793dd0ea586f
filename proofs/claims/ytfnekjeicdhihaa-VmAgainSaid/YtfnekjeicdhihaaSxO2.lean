/- A symbolic executor, part O2: states in one form: blocks are numbered anew, what nothing leads to is forgotten, what is known is sorted. -/
import Derived.Test.YtfnekjeicdhihaaSxO
namespace Go.SX

mutual
def V.ids : V → List Nat
  | .ptr b _ _ _ => [b]
  | .slice b _ _ _ _ m => match m with
    | .s i => [b, i]
    | .e _ => [b]
  | .ms _ b _ => [b]
  | .mapr b => [b]
  | .fn _ cs => idsL cs
  | .iface _ v => v.ids
  | .agg l => idsL l
  | .tup l => idsL l
  | _ => []
def idsL : List V → List Nat
  | [] => []
  | x :: xs => x.ids ++ idsL xs
end
def Chunk.ids (c : Chunk) : List Nat := (match c.room with
  | some r => [r.1]
  | none => []) ++ idsL c.segs
def tmIds : TM → List Nat
  | [] => []
  | some v :: xs => v.ids ++ tmIds xs
  | none :: xs => tmIds xs
/-- Blocks that are led to, in order. -/
def collect (H : List Chunk) : Nat → List Nat → List Nat → List Nat
  | 0, _, acc => acc.reverse
  | _ + 1, [], acc => acc.reverse
  | n + 1, x :: xs, acc => if acc.contains x then collect H n xs acc else collect H n (xs ++ (match H.find? (·.id == x) with
    | some c => c.ids
    | none => [])) (x :: acc)
def thetaOf (nb nx : Nat) (ids : List Nat) : Sub := ⟨[], [], ids.zipIdx.map fun p => (nb + p.2, p.1), nb + ids.length, nx⟩
def phiOf (nb nx : Nat) (ids : List Nat) : Sub := ⟨[], [], ids.zipIdx.map fun p => (p.1, nb + p.2), nx, nb + ids.length⟩
/-! ### What is known, sorted -/
def U.key : U → Nat
  | .not => 1
  | .wrap _ => 2
  | .neg => 3
def O.key : O → Nat
  | .add => 1
  | .sub => 2
  | .mul => 3
  | .quo => 4
  | .rem => 5
  | .lt => 6
  | .le => 7
  | .eq => 8
  | .and => 9
  | .or => 10
  | _ => 11
def E.key : E → Nat
  | .c n => (n.natAbs * 3 + 1) % 1000003
  | .v i => (i * 31 + 7) % 1000003
  | .un o a => (a.key * 17 + o.key * 5 + 2) % 1000003
  | .bi o a b => (a.key * 101 + b.key * 1009 + o.key * 7 + 3) % 1000003
  | .te x a b => (x.key * 13 + a.key * 103 + b.key * 1013 + 4) % 1000003
  | .av i => (i * 37 + 5) % 1000003
  | .zz => 6
  | .set a i k x => (a.key * 11 + i.key * 107 + x.key * 1019 + k * 3 + 8) % 1000003
  | .get a i k => (a.key * 19 + i.key * 109 + k * 5 + 9) % 1000003
def insE (x : E) (k : Nat) : List (Nat × E) → List (Nat × E)
  | [] => [(k, x)]
  | (m, y) :: l => if k < m then (k, x) :: (m, y) :: l else if k = m ∧ x = y then (m, y) :: l else (m, y) :: insE x k l
def sortPc (l : List E) : List E := (l.foldr (fun x acc => insE x x.key acc) []).map (·.2)
def insH (c : Chunk) : List Chunk → List Chunk
  | [] => [c]
  | d :: l => if c.id < d.id then c :: d :: l else d :: insH c l
def sortH (l : List Chunk) : List Chunk := l.foldr insH []

def canonIds (nb : Nat) (tm : TM) (s : S) : List Nat × List Nat :=
  let all := collect s.H 4000 (tmIds tm ++ (s.H.filter fun c => decide (c.id < nb)).map (·.id)) []
  (all, all.filter fun i => decide (nb ≤ i))
def subC (φ : Sub) (c : Chunk) : Chunk := { c with id := φ.id c.id, room := c.room.map fun r => (φ.id r.1, r.2), segs := subL φ c.segs }
def canonTM (φ : Sub) (tm : TM) : TM := tm.map (Option.map (V.sub φ))
/-- The one form, if it is one. -/
def canon (nb : Nat) (keep : E → Bool) (tm : TM) (s : S) : Option (TM × S) :=
  let ids := canonIds nb tm s
  let φ := phiOf nb s.nx ids.2
  let θ := thetaOf nb s.nx ids.2
  let s0 : S := ⟨sortPc (s.pc.filter keep), φ.nx, sortH ((s.H.filter fun c => !c.fresh || ids.1.contains c.id).map (subC φ))⟩
  let tm0 := canonTM φ tm
  if (chkS θ s0 s && chkTM θ tm0 tm && (List.range nb).all (fun b => θ.id b == b) && decide (nb ≤ θ.n0)) = true then some (tm0, s0) else none

section
variable {ρ : Env} {W0 : World} {σ : Sig}
theorem insE_mem {x : E} {k : Nat} : ∀ {l : List (Nat × E)} {y : E}, y ∈ (insE x k l).map (·.2) → y = x ∨ y ∈ l.map (·.2)
  | [], y, h => by simp [insE] at h; exact .inl h
  | (m, z) :: l, y, h => by
    simp only [insE] at h
    split at h
    · simp only [List.map_cons, List.mem_cons] at h ⊢
      rcases h with h | h | h
      · exact .inl h
      · exact .inr (.inl h)
      · exact .inr (.inr h)
    · split at h
      · exact .inr h
      · simp only [List.map_cons, List.mem_cons] at h ⊢
        rcases h with h | h
        · exact .inr (.inl h)
        · rcases insE_mem h with h | h
          · exact .inl h
          · exact .inr (.inr h)
theorem sortPc_mem : ∀ {l : List E} {y : E}, y ∈ sortPc l → y ∈ l
  | [], y, h => by simp [sortPc] at h
  | x :: l, y, h => by
    simp only [sortPc, List.foldr_cons] at h
    rcases insE_mem h with rfl | h
    · exact List.mem_cons_self
    · exact List.mem_cons_of_mem _ (sortPc_mem h)
theorem canon_ok {nb : Nat} {keep : E → Bool} {tm tm0 : TM} {s s0 : S} (h : canon nb keep tm s = some (tm0, s0)) (hl : σ.length = nb) {τ : Sig} {w : World} {l : List Value} (g : Gam ρ W0 (σ ++ τ) s w)
    (hf : ∀ (i : Nat) (v : V), tm[i]? = some (some v) → v.val ρ (σ ++ τ) = l[i]?) :
    ∃ τ0, Gam ρ W0 (σ ++ τ0) s0 w ∧ tm0.length = tm.length ∧ ∀ (i : Nat) (v : V), tm0[i]? = some (some v) → v.val ρ (σ ++ τ0) = l[i]? := by
  unfold canon at h
  dsimp only at h
  split at h
  case isFalse => cases h
  rename_i hc
  simp only [Bool.and_eq_true, decide_eq_true_eq] at hc
  obtain ⟨⟨⟨h1, h2⟩, h3⟩, h4⟩ := hc
  simp only [Option.some.injEq, Prod.mk.injEq] at h
  obtain ⟨rfl, rfl⟩ := h
  generalize hθ : thetaOf nb s.nx (canonIds nb tm s).2 = θ at h1 h2 h3 h4
  have henv : θ.env ρ = ρ := by subst hθ; rfl
  have g1 := g.recast h1 (by
    rw [henv]
    intro e he
    exact g.pc e (List.mem_filter.1 (sortPc_mem he)).1)
  have hok : θ.ok = true ∧ θ.nx = s.nx := by
    simp only [chkS, Bool.and_eq_true, beq_iff_eq] at h1
    exact ⟨h1.1.1.1.1.1.1, h1.1.1.1.1.2⟩
  have hlen : (σ ++ τ).length = θ.nx := by rw [hok.2]; exact g.len
  have hsig : θ.sig (σ ++ τ) = σ ++ (θ.sig (σ ++ τ)).drop nb := by
    have : (θ.sig (σ ++ τ)).take nb = σ := by
      apply List.ext_getElem?
      intro i
      by_cases hi : i < nb
      · rw [List.getElem?_take_of_lt hi, Sub.sig_get hok.1 hlen]
        have := List.all_eq_true.1 h3 i (List.mem_range.2 hi)
        rw [eq_of_beq this, List.getElem?_append_left (by omega)]
      · rw [List.getElem?_eq_none (by simp; omega), List.getElem?_eq_none (by omega)]
    conv => lhs; rw [← List.take_append_drop nb (θ.sig (σ ++ τ))]
    rw [this]
  have hr := FR.recast hok.1 hlen h2 hf
  rw [henv] at g1 hr
  rw [hsig] at g1 hr
  exact ⟨_, g1, hr.1, hr.2⟩

/-- What cannot be. -/
def neverS (pc : List E) : Bool := pc.any fun e => pc.any fun f => decide (f = neg e)
theorem never_ok {pc : List E} (h : PC ρ pc) : neverS pc = false := by
  cases hc : neverS pc
  · rfl
  · simp only [neverS, List.any_eq_true, decide_eq_true_eq] at hc
    obtain ⟨e, he, f, hf, hh⟩ := hc
    have := h f hf
    rw [hh, neg_n] at this
    exact absurd this (h e he)
end
end Go.SX
