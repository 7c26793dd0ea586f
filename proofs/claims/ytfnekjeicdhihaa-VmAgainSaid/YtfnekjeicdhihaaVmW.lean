/- The two instructions that the statements run at their end: what comes of them. -/
import Derived.Test.YtfnekjeicdhihaaVmV
import Derived.Test.YtfnekjeicdhihaaSxT
namespace Go.Proofs.Ytfnekjeicdhihaa
open Go.SX

def wayL (o : Option (List Out)) : List (Option Res × List E) := match o with
  | some l => l.map fun o => (resOf o, pcOf o)
  | none => []
theorem way_of {b : Bool} {ρ : Env} {op : Int} {L : List (Option Res × List E)} (hL : wayL (outB b op) = L) (hop : ρ.av 3 (ρ.iv 4) 0 = op) {r : Res} {pc : List E} (hm : (some r, pc) ∈ L) (hp : PC (fetch ρ) pc) : Way b ρ r := by
  subst hL
  unfold wayL at hm
  split at hm
  · rename_i l hl
    obtain ⟨o, ho, he⟩ := List.mem_map.1 hm
    rw [Prod.mk.injEq] at he
    obtain ⟨he1, rfl⟩ := he
    exact ⟨l, o, by rw [hop]; exact hl, ho, he1, hp⟩
  · cases hm

def kRows : Int → Nat → Int := fun r k => if r = 0 ∧ k = 0 then 1 else if r = 0 ∧ k = 4 then 7 else if r = 1 ∧ k = 0 then 24 else 0
def kEnv (x : Value) : Env := { iv := fun i => if i = 1 then 2 else 0, av := fun i => if i = 3 then kRows else fun _ _ => 0, ov := fun i => if i = 0 then x else .slice none 0 0 }
def kPc : List E := [.bi .le (.c 0) (.v 4), .bi .le (.c 0) (.v 9), .bi .le (.bi .add (.v 9) (.c 1)) (.c 4398046511104), .bi .lt (.v 4) (.v 1), .bi .le (.c 0) (.v 10), .bi .lt (.v 10) (.c 10), .bi .le (.c 0) (.v 11), .bi .lt (.v 11) (.c 10), .bi .le (.c 0) (.v 13)]
def kIv : List (Nat × E) := [(8, .v 8), (7, .v 7), (6, .v 6), (5, .un (.wrap .i64) (.bi .add (.v 5) (.c 1))), (4, .un (.wrap .i64) (.bi .add (.v 4) (.c 1))), (3, .v 3), (2, .v 2), (1, .v 1), (0, .v 0), (14, .c 0)]
def kAv : List (Nat × E) := [(5, .av 5), (4, .av 4), (3, insA 1), (2, .av 2), (1, .set (.av 1) (.v 10) 0 (.v 13)), (0, .set (.av 0) (.v 10) 0 (.c 1))]
def xIv : List (Nat × E) := [(8, .get (.av 1) (.c 0) 0), (7, .v 7), (6, .v 6), (5, .un (.wrap .i64) (.bi .add (.v 5) (.c 1))), (4, .un (.wrap .i64) (.bi .add (.v 4) (.c 1))), (3, .v 3), (2, .v 2), (1, .v 1), (0, .v 0), (14, .c 1)]
def xAv : List (Nat × E) := [(5, .av 5), (4, .av 4), (3, insA 24), (2, .av 2), (1, .av 1), (0, .av 0)]
def xIvH : List (Nat × E) := [(8, .v 8), (7, .v 7), (6, .v 6), (5, .v 5), (4, .v 4), (3, .v 3), (2, .v 2), (1, .v 1), (0, .v 0)]
theorem ways1 : wayL (outB false 1) = [(some (.next false kIv kAv), kPc)] := by kernel_rfl
theorem ways24 : wayL (outB false 24) = [(some (.halt 2 false xIvH xAv), .un .not (.get (.av 0) (.c 0) 0) :: kPc), (some (.next false xIv xAv), .get (.av 0) (.c 0) 0 :: kPc)] := by kernel_rfl

def allB (ρ : Env) (pc : List E) : Bool := pc.all fun e => decide (e.n ρ ≠ 0)
theorem allB_pc {ρ : Env} {pc : List E} (h : allB ρ pc = true) : PC ρ pc := fun e he => by
  have := List.all_eq_true.1 h e he
  simpa using this
def k0 (x : Value) : Env := start (kEnv x)
def k1 (x : Value) : Env := envOf kIv kAv (fetch (k0 x))
def k2 (x : Value) : Env := envOf xIv xAv (fetch (k1 x))
theorem k0_inv (x : Value) : Inv false (k0 x) := by
  refine ⟨(by decide : (0 : Int) ≤ 0), (by decide : (0 : Int) ≤ 40000), (by decide : (2 : Int) ≤ 300), (by decide : (0 : Int) ≤ 0), (by decide : (0 : Int) ≤ 0), fun _ => rfl, fun r h1 h2 => ?_⟩
  have h2 : r < 2 := h2
  have : r = 0 ∨ r = 1 := by omega
  rcases this with rfl | rfl
  · show OkIns (kRows 0)
    refine ⟨by decide, by decide, by decide, by decide, by decide, by decide⟩
  · show OkIns (kRows 1)
    refine ⟨by decide, by decide, by decide, by decide, by decide, by decide⟩
theorem k_way0 (x : Value) : Way false (k0 x) (.next false kIv kAv) := way_of (L := _) ways1 rfl (List.mem_singleton.2 rfl) (allB_pc (by kernel_rfl))
theorem k_way1 (x : Value) : Way false (k1 x) (.next false xIv xAv) := way_of (L := _) ways24 (by kernel_rfl) (List.mem_cons_of_mem _ (List.mem_singleton.2 rfl)) (allB_pc (by kernel_rfl))
theorem k_ends {x : Value} {b' : Bool} {ρ' : Env} (h : Ends false (k0 x) b' ρ') : b' = false ∧ ρ' = k2 x := by
  have hI0 := k0_inv x
  have a0 : (k0 x).iv 14 = 0 := rfl
  have l0 : (k0 x).iv 4 < (k0 x).iv 1 := (by decide : (0 : Int) < 2)
  have hI1 := (way_next hI0 l0 (k_way0 x)).1
  have a1 : (k1 x).iv 14 = 0 := rfl
  have l1 : (k1 x).iv 4 < (k1 x).iv 1 := by
    have e1 : (k1 x).iv 4 = 1 := by kernel_rfl
    have e2 : (k1 x).iv 1 = 2 := by kernel_rfl
    omega
  have a2 : (k2 x).iv 14 ≠ 0 := by
    have : (k2 x).iv 14 = 1 := by kernel_rfl
    omega
  cases h with
  | stop h => exact absurd a0 h
  | jump _ h => omega
  | halt _ hl hw => cases way_one hI0 hl (k_way0 x) hw
  | next _ hl hw h2 =>
    cases way_one hI0 hl (k_way0 x) hw
    have h2 : Ends false (k1 x) b' ρ' := h2
    cases h2 with
    | stop h => exact absurd a1 h
    | jump _ h => omega
    | halt _ hl hw => cases way_one hI1 hl (k_way1 x) hw
    | next _ hl hw h3 =>
      cases way_one hI1 hl (k_way1 x) hw
      have h3 : Ends false (k2 x) b' ρ' := h3
      cases h3 with
      | stop _ => exact ⟨rfl, rfl⟩
      | jump h _ => exact absurd h a2
      | halt h _ _ => exact absurd h a2
      | next h _ _ _ => exact absurd h a2

/-! ### As a contract -/
def kRun0 : List V := [.int .i64 (.c 0), .slice 1 0 0 (.c 0) (.c 2) (.e (.c 2)), .nils, .nils, .int .i64 (.c 0), .arr .zz [.bool] (.c 10), .arr .zz [.int .u32] (.c 10), .int .i64 (.c 0), .int .i64 (.c 0), .int .i64 (.c 0), .int .u32 (.c 0), .nils, .arr .zz [.int .u8] (.c 64), .fn 10 []]
def kRun2 : List V := [.int .i64 (.c 0), .slice 1 0 0 (.c 0) (.c 2) (.e (.c 2)), .nils, .nils, .int .i64 (.c 2), .arr (.set .zz (.c 0) 0 (.c 1)) [.bool] (.c 10), .arr (.set .zz (.c 0) 0 (.c 7)) [.int .u32] (.c 10), .int .i64 (.c 2), .int .i64 (.c 0), .int .i64 (.c 1), .int .u32 (.c 7), .nils, .arr .zz [.int .u8] (.c 64), .fn 10 []]
def kIns : List V := [.int .i64 (.c 1), .int .i64 (.c 0), .int .i64 (.c 0), .int .i64 (.c 0), .int .u32 (.c 7), .int .i64 (.c 24), .int .i64 (.c 0), .int .i64 (.c 0), .int .i64 (.c 0), .int .u32 (.c 0)]
def kS (run : List V) : S := ⟨[], 2, [⟨0, true, 67, true, false, none, run⟩, ⟨1, false, 43, false, false, none, kIns⟩]⟩
def kL : List COut := [.ret (.tup []) (kS kRun2)]
theorem kIns_cells (ρ : Env) (σ : Sig) : cellsL ρ σ kIns = some (arrCells kRows insKs 2) := by kernel_rfl

section
variable {ρ : Env} {W : World} {σ : Sig} {w : World}
theorem k_slice {k o : Nat} (h1 : σ[1]? = some (k, o)) : (V.slice 1 0 0 (.c 0) (.c 2) (.e (.c 2))).val ρ σ = some (.slice (some ⟨k, o, none⟩) 2 2) := by
  simp only [V.val, addrOf, h1, if_true, Nat.add_zero]
  rfl
def finE (x : Value) : Env := { iv := fun i => if 60 ≤ i then (k2 x).iv (i - 60) else 0, av := fun i => if 20 ≤ i then (k2 x).av (i - 20) else fun _ _ => 0, ov := (k2 x).ov }
theorem kfin (ρ : Env) (σ : Sig) (kr ki oi : Nat) : cellsL ρ [(kr, 0), (ki, oi)] kRun2 = cellsL (finE (.slice (some ⟨ki, oi, none⟩) 2 2)) σ (finSegs .nils .nils .nils) := by kernel_rfl
theorem kbeg (ρ : Env) (kr ki oi : Nat) : cellsL ρ [(kr, 0), (ki, oi)] kRun0 = cellsL (kEnv (.slice (some ⟨ki, oi, none⟩) 2 2)) [(kr, 0), (kr, 0), (ki, oi), (ki, oi), (ki, oi), (ki, oi), (ki, oi)] (runSegs (.fn 10 []) .nils) := by
  have hms : (V.ms 0 2 (.v 1)).cells (kEnv (.slice (some ⟨ki, oi, none⟩) 2 2)) [(kr, 0), (kr, 0), (ki, oi), (ki, oi), (ki, oi), (ki, oi), (ki, oi)] = some [.slice (some ⟨ki, oi, none⟩) 2 2] := by
    simp [V.cells, msOf, kEnv, E.n_v]
  simp only [runSegs, cellsL, hms]
  rfl
theorem k17c_ok {xs : List Value} (g : Gam ρ W σ (kS kRun0) w) (hv : valL ρ σ [.ptr 0 0 0 (.c 0)] = some xs) : Calls Try.prog 17 xs.toArray w (SPC ρ W σ kL) := by
  obtain ⟨ki, oi, csi, i1, i2, i3, _, i5⟩ := g.ch ⟨1, false, 43, false, false, none, kIns⟩ (by simp [kS])
  obtain ⟨kr, or', csr, r1, r2, r3, r4, r5⟩ := g.ch ⟨0, true, 67, true, false, none, kRun0⟩ (by simp [kS])
  rw [if_pos rfl] at r5
  obtain ⟨rfl, tail, r6, r7, _⟩ := r5
  have i1 : σ[1]? = some (ki, oi) := i1
  have r1 : σ[0]? = some (kr, 0) := r1
  have hne : kr ≠ ki := by
    have := g.sep ⟨0, true, 67, true, false, none, kRun0⟩ (by simp [kS]) ⟨1, false, 43, false, false, none, kIns⟩ (by simp [kS]) rfl (by decide)
    simpa [blk, i1, r1] using this
  rw [kIns_cells] at i2
  cases i2
  simp only [valL] at hv
  split at hv
  case h_2 => cases hv
  rename_i x0 r0 hx0 hr0
  cases hv
  simp only [Option.some.injEq] at hr0
  subst hr0
  have hsl : ∀ (ρ : Env) (σ : Sig), σ[1]? = some (ki, oi) → (V.slice 1 0 0 (.c 0) (.c 2) (.e (.c 2))).cells ρ σ = some [.slice (some ⟨ki, oi, none⟩) 2 2] := fun ρ σ h => by
    rw [V.cells_one _ _ _ rfl, k_slice h]; rfl
  let sv : Value := .slice (some ⟨ki, oi, none⟩) 2 2
  let σ' : Sig := [(kr, 0), (kr, 0), (ki, oi), (ki, oi), (ki, oi), (ki, oi), (ki, oi)]
  have hrun : cellsL ρ σ kRun0 = cellsL (kEnv sv) σ' (runSegs (.fn 10 []) .nils) := by
    have h1 : cellsL ρ σ kRun0 = cellsL ρ [(kr, 0), (ki, oi)] kRun0 := by
      simp only [kRun0, cellsL, hsl ρ σ i1, hsl ρ [(kr, 0), (ki, oi)] rfl]
      rfl
    rw [h1]
    exact kbeg ρ kr ki oi
  have gk : Gam (kEnv sv) w σ' sG w := by
    refine ⟨(fun e he => by cases he), rfl, by decide, ?_, ?_, Nat.le_refl _, rfl, rfl, rfl, fun _ _ _ => rfl⟩
    · intro c hc
      simp only [sG, List.mem_cons, List.not_mem_nil, or_false] at hc
      rcases hc with rfl | rfl | rfl | rfl
      · exact ⟨kr, 0, csr, rfl, by rw [← hrun]; exact r2, r3, (fun h => Bool.noConfusion h), by rw [if_pos rfl]; exact ⟨rfl, tail, r6, r7, fun j st h => nomatch h⟩⟩
      · refine ⟨ki, oi, arrCells kRows insKs 2 ++ [], rfl, by kernel_rfl, i3, (fun h => Bool.noConfusion h), ?_⟩
        rw [if_neg (by simp)]
        simpa using i5
      · exact ⟨ki, oi, [], rfl, by kernel_rfl, i3, (fun h => Bool.noConfusion h), by rw [if_neg (by simp)]; intro j v h; simp at h⟩
      · exact ⟨ki, oi, [], rfl, by kernel_rfl, i3, (fun h => Bool.noConfusion h), by rw [if_neg (by simp)]; intro j v h; simp at h⟩
    · intro c hc d hd ho hn
      simp only [sG, List.mem_cons, List.not_mem_nil, or_false] at hc hd
      rcases hc with rfl | rfl | rfl | rfl <;> simp at ho
      rcases hd with rfl | rfl | rfl | rfl
      · exact absurd rfl hn
      all_goals
        show some kr ≠ some ki
        simpa using hne
  have hx : (V.ptr 0 0 0 (.c 0)).val (kEnv sv) σ' = some x0 := by
    rw [← hx0]
    simp only [V.val, addrOf, r1, σ']
    rfl
  refine (goes_ok hx gk (k0_inv sv)).mono fun e w' hr => ?_
  obtain ⟨rfl, b', ρ', σ2, hE, hs0, g3⟩ := hr
  obtain ⟨rfl, rfl⟩ := k_ends hE
  obtain ⟨k, o, cs, e1, e2, e3, e4, e5⟩ := g3.ch ⟨0, true, 67, true, false, none, runSegs (.fn 10 []) .nils⟩ (by simp [sT, tmplH])
  rw [if_pos rfl] at e5
  obtain ⟨rfl, tail2, e6, e7, _⟩ := e5
  have hs0' : σ2[0]? = some (kr, 0) := hs0
  have e1 : σ2[0]? = some (k, 0) := e1
  rw [hs0'] at e1
  cases e1
  have stay : ∀ k, k < w.heap.size → k ≠ kr → w'.heap[k]? = w.heap[k]? := by
    intro k hk hn
    refine g3.kept k hk fun c hc ho => ?_
    simp only [sT, tmplH, Bool.false_eq_true, if_false, List.append_nil, List.mem_cons, List.not_mem_nil, or_false] at hc
    rcases hc with rfl | rfl | rfl | rfl | rfl
    · simp only [blk, hs0', Option.map_some, ne_eq, Option.some.injEq]
      exact fun e => hn e.symm
    · obtain ⟨k', o', cs', f1, f2, f3, f4, _⟩ := g3.ch ⟨1, true, 64, true, true, none, [.ptr 0 0 0 (.c 0)]⟩ (by simp [sT, tmplH])
      have := f4 rfl
      have f1 : σ2[1]? = some (k', o') := f1
      simp only [blk, f1, Option.map_some, ne_eq, Option.some.injEq]
      omega
    all_goals simp at ho
  have hF : Fin (finE sv) false (k2 sv) := by
    refine ⟨by simp [finE], fun i hi _ => ?_, fun i hi => ?_⟩
    · show (if 60 ≤ 60 + i then (k2 sv).iv (60 + i - 60) else 0) = _
      rw [if_pos (by omega), show 60 + i - 60 = i by omega]
    · show (if 20 ≤ 20 + i then (k2 sv).av (20 + i - 20) else fun _ _ => 0) = _
      rw [if_pos (by omega), show 20 + i - 20 = i by omega]
  have hcs : cellsL ρ σ kRun2 = some cs := by
    have h1 : cellsL (finE sv) σ (finSegs .nils .nils .nils) = some cs := fin_cells (b := false) hF rfl rfl rfl rfl e2
    have h2 : cellsL ρ σ kRun2 = cellsL ρ [(kr, 0), (ki, oi)] kRun2 := by
      simp only [kRun2, cellsL, hsl ρ σ i1, hsl ρ [(kr, 0), (ki, oi)] rfl]
      rfl
    rw [h2, ← h1]
    exact kfin ρ σ kr ki oi
  refine ⟨.tup [], kS kRun2, [], List.mem_singleton.2 rfl, ?_, rfl⟩
  rw [List.append_nil]
  refine ⟨(fun e he => by cases he), g.len, by decide, ?_, ?_, Nat.le_trans g.size g3.size, g3.tape.trans g.tape, g3.os.trans g.os, g3.out.trans g.out, ?_⟩
  · intro c hc
    simp only [kS, List.mem_cons, List.not_mem_nil, or_false] at hc
    rcases hc with rfl | rfl
    · exact ⟨kr, 0, cs, r1, hcs, e3, (fun h => Bool.noConfusion h), by rw [if_pos rfl]; exact ⟨rfl, tail2, e6, e7, fun j st h => nomatch h⟩⟩
    · refine ⟨ki, oi, _, i1, kIns_cells ρ σ, Nat.lt_of_lt_of_le i3 g3.size, (fun h => Bool.noConfusion h), ?_⟩
      rw [if_neg (by simp)] at i5 ⊢
      intro j v hj
      rw [cell_of_heap (a := ⟨ki, oi + j, none⟩) (stay ki i3 (fun e => hne e.symm))]
      exact i5 j v hj
  · intro c hc d hd ho hn
    simp only [kS, List.mem_cons, List.not_mem_nil, or_false] at hc hd
    rcases hc with rfl | rfl <;> simp at ho
    rcases hd with rfl | rfl
    · exact absurd rfl hn
    · simp only [blk, r1, i1, Option.map_some, ne_eq, Option.some.injEq]
      exact hne
  · intro k hk h
    have hn : k ≠ kr := by
      have := h ⟨0, true, 67, true, false, none, kRun2⟩ (by simp [kS]) rfl
      simp only [blk, r1, Option.map_some, ne_eq, Option.some.injEq] at this
      exact fun e => this e.symm
    rw [stay k (Nat.lt_of_lt_of_le hk g.size) hn]
    refine g.kept k hk fun c hc ho => ?_
    simp only [kS, List.mem_cons, List.not_mem_nil, or_false] at hc
    rcases hc with rfl | rfl
    · simp only [blk, r1, Option.map_some, ne_eq, Option.some.injEq]
      exact fun e => hn e.symm
    · simp at ho
end
/-- 'goes' at these two instructions. -/
def k17c : CallF := frameK 17 [.ptr 0 0 0 (.c 0)] (kS kRun0) kL false
theorem k17c_call (ρ : Env) : CallOK ρ Try.prog k17c := frameK_ok fun ρ' W σ w xs _ g hv => by
  refine ⟨?_, k17c_ok g hv⟩
  have hn : ¬ Try.f17.name = "runtime.NumGoroutine" := by decide
  simp [callFunc, Try.func17, hn, goes_code]
def k5l : List COut := [.ret (.bool (.c 1)) ⟨[], 0, []⟩]
theorem k5l_ok : coarseC (fun _ _ => true) (callX Try.prog k17c 200) 5 [] ⟨[], 0, []⟩ = some k5l := by kernel_rfl
/-- 'known' is true. -/
def k5 : CallF := frameK 5 [] ⟨[], 0, []⟩ k5l false
theorem k5_ok (ρ : Env) : CallOK ρ Try.prog k5 := frame_of (fun ρ' _ => coarseC_ok (callX_ok (k17c_call ρ') named_ok mixed_ok 200)) k5l_ok rfl
/-- 'SameRan' of two that made no calls. -/
def k7nl : List COut := [.ret (.bool (.c 1)) ⟨[], 0, []⟩]
theorem k7nl_ok : coarseC (fun _ _ => true) (callX Try.prog noK 200) 7 [ranV .nils, ranV .nils] ⟨[], 0, []⟩ = some k7nl := by kernel_rfl
def k7n : CallF := frameK 7 [ranV .nils, ranV .nils] ⟨[], 0, []⟩ k7nl false
theorem k7n_ok (ρ : Env) : CallOK ρ Try.prog k7n := frame_of (fun ρ' _ => coarseC_ok (callX_ok (noK_ok ρ') named_ok mixed_ok 200)) k7nl_ok rfl
end Go.Proofs.Ytfnekjeicdhihaa
