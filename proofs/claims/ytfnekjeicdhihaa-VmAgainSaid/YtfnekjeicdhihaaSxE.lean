/- A symbolic executor, part E: the state, and what it says of a world; loads, stores, new blocks. -/
import Derived.Test.YtfnekjeicdhihaaSxD
namespace Go.SX

structure Chunk where
  id : Nat
  own : Bool
  elem : TypeId
  full : Bool
  fresh : Bool
  room : Option (Nat × Nat) := none
  segs : List V
structure S where
  pc : List E
  nx : Nat
  H : List Chunk

def Chunk.ok (ρ : Env) (W0 : World) (σ : Sig) (w : World) (c : Chunk) : Prop :=
  ∃ k o cs, σ[c.id]? = some (k, o) ∧ cellsL ρ σ c.segs = some cs ∧ k < w.heap.size ∧ (c.fresh = true → W0.heap.size ≤ k) ∧
    if c.own = true then o = 0 ∧ ∃ tail, w.heap[k]? = some (.cells (cs ++ tail).toArray c.elem (0, 0)) ∧ (c.full = true → tail = []) ∧ ∀ j st, c.room = some (j, st) → ∃ m, σ[j]? = some m ∧ (cs ++ tail).length = m.1 * st
    else ∀ j v, cs[j]? = some v → w.cell? ⟨k, o + j, none⟩ = some v
def blk (σ : Sig) (i : Nat) : Option Nat := (σ[i]?).map (·.1)

structure Gam (ρ : Env) (W0 : World) (σ : Sig) (s : S) (w : World) : Prop where
  pc : PC ρ s.pc
  len : σ.length = s.nx
  ids : (s.H.map (·.id)).Nodup
  ch : ∀ c ∈ s.H, c.ok ρ W0 σ w
  sep : ∀ c ∈ s.H, ∀ d ∈ s.H, c.own = true → c.id ≠ d.id → blk σ c.id ≠ blk σ d.id
  size : W0.heap.size ≤ w.heap.size
  tape : w.tape = W0.tape
  os : w.os = W0.os
  out : w.output = W0.output
  kept : ∀ k, k < W0.heap.size → (∀ c ∈ s.H, c.own = true → blk σ c.id ≠ some k) → w.heap[k]? = W0.heap[k]?

theorem cells_heap {w w' : World} (h : w'.heap = w.heap) (a : Addr) : w'.cell? a = w.cell? a := by simp [World.cell?, h]
/-- Draws change nothing. -/
theorem Gam.same {ρ : Env} {W0 : World} {σ : Sig} {s : S} {w w' : World} (g : Gam ρ W0 σ s w) (h : w'.heap = w.heap) (h1 : w'.tape = w.tape) (h2 : w'.os = w.os) (h3 : w'.output = w.output) : Gam ρ W0 σ s w' where
  pc := g.pc
  len := g.len
  ids := g.ids
  ch := fun c hc => by
    obtain ⟨k, o, cs, e1, e2, e3, e4, e5⟩ := g.ch c hc
    refine ⟨k, o, cs, e1, e2, by rw [h]; exact e3, e4, ?_⟩
    simp only [cells_heap h, h]; exact e5
  sep := g.sep
  size := by rw [h]; exact g.size
  tape := h1.trans g.tape
  os := h2.trans g.os
  out := h3.trans g.out
  kept := by rw [h]; exact g.kept
theorem Gam.drew {ρ : Env} {W0 : World} {σ : Sig} {s : S} {w : World} (g : Gam ρ W0 σ s w) : Gam ρ W0 σ s w.drew := g.same rfl rfl rfl rfl

/-! ### One cell each -/
theorem ms_one {ρ : Env} {σ : Sig} {o b : Nat} {len : E} {v : Value} (h : msOf ρ σ o b len = some v) : v.oneCell' = true := by
  unfold msOf at h
  split at h
  · split at h
    · cases h; rfl
    · cases h
  · split at h
    · cases h; rfl
    · cases h
  · cases h
mutual
theorem V.one (ρ : Env) (σ : Sig) : ∀ (x : V) (cs : List Value), x.cells ρ σ = some cs → ∀ v ∈ cs, v.oneCell' = true
  | .agg l, cs, h => by simp only [V.cells] at h; exact cellsL_one ρ σ l cs h
  | .tup _, cs, h => by simp [V.cells] at h
  | .arr a ks n, cs, h => by
    simp only [V.cells, Option.map_eq_some_iff] at h
    obtain ⟨N, _, rfl⟩ := h
    intro v hv
    simp only [arrCells, List.mem_map] at hv
    obtain ⟨p, _, rfl⟩ := hv
    simp only [arrCell]
    cases ks.getD (p % ks.length) .bool <;> rfl
  | .int .., cs, h | .bool .., cs, h | .nilp, cs, h | .nils, cs, h | .nilf, cs, h | .nili, cs, h | .str .., cs, h | .nilm, cs, h => by
    simp only [V.cells, Option.some.injEq] at h; subst h; simp [Value.oneCell']
  | .ms .., cs, h => by
    simp only [V.cells, Option.map_eq_some_iff] at h; obtain ⟨x, hx, rfl⟩ := h; simp [ms_one hx]
  | .bs .., cs, h | .ptr .., cs, h | .fn .., cs, h | .iface .., cs, h | .mapr .., cs, h => by
    simp only [V.cells, Option.map_eq_some_iff] at h; obtain ⟨_, _, rfl⟩ := h; simp [Value.oneCell']
  | .slice .., cs, h => by
    simp only [V.cells] at h; split at h <;> cases h; simp [Value.oneCell']
  | .ov i, cs, h => by
    simp only [V.cells] at h; split at h
    · rename_i ho; cases h; simpa using ho
    · cases h
theorem cellsL_one (ρ : Env) (σ : Sig) : ∀ (l : List V) (cs : List Value), cellsL ρ σ l = some cs → ∀ v ∈ cs, v.oneCell' = true
  | [], cs, h => by simp only [cellsL, Option.some.injEq] at h; subst h; simp
  | x :: xs, cs, h => by
    obtain ⟨a, b, h1, h2, rfl⟩ := cellsL_cons h
    intro v hv
    rcases List.mem_append.1 hv with hv | hv
    · exact V.one ρ σ x a h1 v hv
    · exact cellsL_one ρ σ xs b h2 v hv
end
theorem oneCell_cells {v : Value} (h : v.oneCell' = true) : v.cells = #[v] := by cases v <;> simp [Value.oneCell'] at h <;> rfl

/-- A value's cells. -/
theorem V.val_cells {ρ : Env} {σ : Sig} {x : V} {v : Value} (h : x.val ρ σ = some v) : (∃ l, x = .tup l) ∨ x.cells ρ σ = some v.cells.toList := by
  cases hw : x.wide with
  | false =>
    right
    have h1 := V.cells_one ρ σ x hw
    rw [h, Option.map_some] at h1
    rw [h1, oneCell_cells (V.one ρ σ _ _ h1 v (by simp))]
  | true =>
    cases x <;> simp [V.wide] at hw
    case tup l => exact .inl ⟨l, rfl⟩
    case agg l =>
      right
      simp only [V.val, Option.map_eq_some_iff] at h
      obtain ⟨cs, hcs, rfl⟩ := h
      simpa [V.cells, Value.cells] using hcs
    case arr a ks n => simp [V.val] at h

/-! ### Loads -/
def S.find (s : S) (b : Nat) : Option Chunk := s.H.find? (·.id == b)
theorem S.find_mem {s : S} {b : Nat} {c : Chunk} (h : s.find b = some c) : c ∈ s.H ∧ c.id = b := by
  unfold S.find at h
  exact ⟨List.mem_of_find?_eq_some h, by simpa using List.find?_some h⟩
def loadC (s : S) (b c st : Nat) (i : E) (n : Nat) : Option (List V) := match s.find b with
  | some ch => if st = 0 then takeC s.pc ch.segs c n else takeS s.pc st i ch.segs c n
  | none => none

theorem add_mk (k o j : Nat) : (⟨k, o, none⟩ : Addr).add j = ⟨k, o + j, none⟩ := by unfold Addr.add; split <;> simp_all

theorem loadC_ok {ρ : Env} {W0 : World} {σ : Sig} {s : S} {w : World} (g : Gam ρ W0 σ s w) {b c st : Nat} {i : E} {n : Nat} {r : List V} {a : Addr} (h : loadC s b c st i n = some r) (ha : addrOf ρ σ b c st i = some a) :
    ∃ vs, cellsL ρ σ r = some vs ∧ vs.length = n ∧ ∀ j v, vs[j]? = some v → w.cell? (a.add j) = some v := by
  unfold loadC at h
  split at h
  · rename_i ch hch
    obtain ⟨hmem, hid⟩ := S.find_mem hch
    obtain ⟨k, o, cs, e1, e2, e3, e4, e5⟩ := g.ch ch hmem
    have hcell : ∀ j v, cs[j]? = some v → w.cell? ⟨k, o + j, none⟩ = some v := by
      split at e5
      · obtain ⟨rfl, tail, h1, _⟩ := e5
        intro j v hj
        have hjl := (List.getElem?_eq_some_iff.1 hj).1
        simp only [World.cell?, h1, Nat.zero_add, Option.isSome_none, Bool.false_eq_true, if_false, List.getElem?_toArray]
        rw [List.getElem?_append_left hjl, hj]
      · exact e5
    unfold addrOf at ha
    rw [hid] at e1
    rw [e1] at ha
    have fin : ∀ q, (n = 0 ∨ q + n ≤ cs.length) → a = ⟨k, o + q, none⟩ → cellsL ρ σ r = some ((cs.drop q).take n) → ∃ vs, cellsL ρ σ r = some vs ∧ vs.length = n ∧ ∀ j v, vs[j]? = some v → w.cell? (a.add j) = some v := by
      intro q hq hae hr
      refine ⟨_, hr, by simp only [List.length_take, List.length_drop]; omega, fun j v hj => ?_⟩
      rw [List.getElem?_take] at hj
      split at hj
      · rw [List.getElem?_drop] at hj
        rw [hae, add_mk, Nat.add_assoc]
        exact hcell _ _ hj
      · cases hj
    split at h
    · rename_i hst
      obtain ⟨h3, h4⟩ := takeC_ok g.pc _ _ _ _ _ h e2
      simp only [hst, if_true, Option.some.injEq] at ha
      exact fin c h3 ha.symm h4
    · rename_i hst
      obtain ⟨h3, h4, h5⟩ := takeS_ok g.pc _ _ _ _ _ _ _ h e2
      simp only [hst, if_false, natOf, if_pos h3, Option.map_some, Option.some.injEq] at ha
      exact fin _ (.inr h4) ha.symm h5
  · cases h

def isAggD : TypeDesc → Bool
  | .struct _ | .array _ _ => true
  | _ => false
theorem run_isAgg' {P : Program} {t : TypeId} {d : TypeDesc} (h : P.underlying t = some d) (w : World) : (isAgg t).run P w = .ok (isAggD d) w := by
  unfold isAgg
  simp only [Sem.run_bind, run_underlying h, Result.andThen_ok]
  cases d <;> rfl
theorem run_sizeOf' {P : Program} {t : TypeId} {i : TypeInfo} (h : P.info? t = some i) (w : World) : (sizeOf t).run P w = .ok i.size w := by
  simp [sizeOf, typeInfo, h]

def loadV (P : Program) (s : S) (t : TypeId) (b c st : Nat) (i : E) : Option V := match P.info? t, P.underlying t with
  | some inf, some d => match loadC s b c st i (if isAggD d then inf.size else 1) with
    | some r => if isAggD d then some (.agg r) else match r with
      | [x] => if x.wide then none else some x
      | _ => none
    | none => none
  | _, _ => none

theorem loadV_ok {ρ : Env} {W0 : World} {σ : Sig} {s : S} {w : World} (g : Gam ρ W0 σ s w) {P : Program} {t : TypeId} {b c st : Nat} {i : E} {x : V} {a : Addr} (h : loadV P s t b c st i = some x) (ha : addrOf ρ σ b c st i = some a) :
    ∃ v, x.val ρ σ = some v ∧ (loadVar t a).run P w = .ok v w := by
  unfold loadV at h
  split at h
  · rename_i inf d hi hd
    split at h
    · rename_i r hr
      obtain ⟨vs, h1, h2, h3⟩ := loadC_ok g hr ha
      split at h
      · rename_i hagg
        cases h
        rw [if_pos hagg] at h2
        refine ⟨.agg vs.toArray, by simp [V.val, h1], ?_⟩
        unfold loadVar
        simp only [Sem.run_bind, run_isAgg' hd, Result.andThen_ok, hagg, if_true, run_sizeOf' hi]
        rw [← h2, run_loadCells_list w a vs h3]
        rfl
      · rename_i hagg
        rw [if_neg hagg] at h2
        split at h
        · rename_i y
          split at h
          · cases h
          · rename_i hw
            cases h
            obtain ⟨p, q, e1, e2, rfl⟩ := cellsL_cons h1
            rw [V.cells_one _ _ _ (by simpa using hw)] at e1
            simp only [Option.map_eq_some_iff] at e1
            obtain ⟨v, hv, rfl⟩ := e1
            refine ⟨v, hv, ?_⟩
            have h4 := h3 0 v (by simp)
            have h5 : a.add 0 = a := by simp [Addr.add]
            rw [h5] at h4
            unfold loadVar
            simp only [Sem.run_bind, run_isAgg' hd, Result.andThen_ok, hagg, run_load, h4]
            simp [h4]
        · cases h
    · cases h
  · cases h

/-! ### Stores -/
def S.put (s : S) (b : Nat) (segs : List V) : S := { s with H := s.H.map fun c => if c.id = b then { c with segs } else c }
def storeC (s : S) (b c st : Nat) (i : E) (vs : List V) (n : Nat) : Option S := match s.find b with
  | some ch => if ch.own = true then (if st = 0 then putC s.pc ch.segs c vs n else putS s.pc st i ch.segs c vs n).map fun segs => s.put b segs else none
  | none => none

theorem ids_unique' : ∀ {l : List Chunk}, (l.map (·.id)).Nodup → ∀ {c d : Chunk}, c ∈ l → d ∈ l → c.id = d.id → c = d
  | [], _, _, _, hc, _, _ => by cases hc
  | x :: xs, h, c, d, hc, hd, he => by
    simp only [List.map_cons, List.nodup_cons, List.mem_map, not_exists, not_and] at h
    rcases List.mem_cons.1 hc with hc' | hc' <;> rcases List.mem_cons.1 hd with hd' | hd'
    · rw [hc', hd']
    · exact absurd (by rw [← he, hc']) (h.1 d hd')
    · exact absurd (by rw [he, hd']) (h.1 c hc')
    · exact ids_unique' h.2 hc' hd' he
theorem ids_unique {s : S} (h : (s.H.map (·.id)).Nodup) {c d : Chunk} (hc : c ∈ s.H) (hd : d ∈ s.H) (he : c.id = d.id) : c = d := ids_unique' h hc hd he

theorem Gam.put {ρ : Env} {W0 : World} {σ : Sig} {s : S} {w : World} (g : Gam ρ W0 σ s w) {ch : Chunk} (hm : ch ∈ s.H) (ho : ch.own = true) {k : Nat} {cs : Array Value} {cs' tail : List Value} {segs : List V}
    (hk : blk σ ch.id = some k) (hcs' : cellsL ρ σ segs = some cs') (hheap : w.heap[k]? = some (.cells cs ch.elem (0, 0))) (hfull : ch.full = true → tail = [])
    (hroom : ∀ j st, ch.room = some (j, st) → ∃ m, σ[j]? = some m ∧ (cs' ++ tail).length = m.1 * st) :
    Gam ρ W0 σ (s.put ch.id segs) (w.setRow k (cs' ++ tail).toArray) where
  pc := g.pc
  len := g.len
  ids := by
    have : (s.put ch.id segs).H.map (·.id) = s.H.map (·.id) := by
      simp only [S.put, List.map_map]
      apply List.map_congr_left
      intro c _
      simp only [Function.comp]
      split <;> rfl
    rw [this]; exact g.ids
  ch := fun c hc => by
    simp only [S.put, List.mem_map] at hc
    obtain ⟨d, hd, rfl⟩ := hc
    obtain ⟨k', o, ds, e1, e2, e3, e4, e5⟩ := g.ch d hd
    split
    · rename_i hid
      have : d = ch := ids_unique g.ids hd hm hid
      subst this
      have hkk : k' = k := by simp only [blk, e1, Option.map_some, Option.some.injEq] at hk; exact hk
      subst hkk
      rw [if_pos ho] at e5
      refine ⟨k', o, cs', e1, hcs', by simpa using e3, e4, ?_⟩
      simp only [ho, if_true]
      exact ⟨e5.1, tail, by rw [setRow_heap w k' _ _ _ _ hheap], hfull, hroom⟩
    · rename_i hid
      have hne : k' ≠ k := by
        have := g.sep ch hm d hd ho (fun e => hid e.symm)
        rw [hk] at this
        simp only [blk, e1, Option.map_some] at this
        exact fun e => this (by rw [e])
      refine ⟨k', o, ds, e1, e2, by simpa using e3, e4, ?_⟩
      rw [setRow_other _ _ _ _ hne]
      split
      · rename_i hod; rw [if_pos hod] at e5; exact e5
      · rename_i hod
        rw [if_neg hod] at e5
        intro j v hj
        rw [cell_setRow_other _ _ _ _ (by exact hne)]
        exact e5 j v hj
  sep := by
    intro c hc d hd
    simp only [S.put, List.mem_map] at hc hd
    obtain ⟨c', hc', rfl⟩ := hc
    obtain ⟨d', hd', rfl⟩ := hd
    have := g.sep c' hc' d' hd'
    split <;> split <;> exact this
  size := by simpa using g.size
  tape := g.tape
  os := g.os
  out := g.out
  kept := fun k' hk' h => by
    have hne : k' ≠ k := by
      intro e
      subst e
      exact h { ch with segs := segs } (List.mem_map.2 ⟨ch, hm, by simp⟩) ho hk
    rw [setRow_other _ _ _ _ hne]
    refine g.kept k' hk' fun c hc hoc => ?_
    have := h (if c.id = ch.id then { c with segs } else c) (List.mem_map.2 ⟨c, hc, rfl⟩)
    split at this <;> exact this hoc

theorem storeC_ok {ρ : Env} {W0 : World} {σ : Sig} {s s' : S} {w : World} (g : Gam ρ W0 σ s w) {b c st : Nat} {i : E} {vs : List V} {n : Nat} {ws : List Value} {a : Addr} (h : storeC s b c st i vs n = some s') (ha : addrOf ρ σ b c st i = some a)
    (hv : cellsL ρ σ vs = some ws) (hn : ws.length = n) (P : Program) : ∃ w', (storeCells a ws).run P w = .ok () w' ∧ Gam ρ W0 σ s' w' := by
  unfold storeC at h
  split at h
  · rename_i ch hch
    obtain ⟨hmem, hid⟩ := S.find_mem hch
    split at h
    · rename_i hown
      obtain ⟨k, o, cs, e1, e2, e3, e4, e5⟩ := g.ch ch hmem
      rw [if_pos hown] at e5
      obtain ⟨rfl, tail, h1, hfull, hroom⟩ := e5
      have hk : blk σ ch.id = some k := by simp [blk, e1]
      simp only [Option.map_eq_some_iff] at h
      obtain ⟨segs, hsegs, rfl⟩ := h
      unfold addrOf at ha
      rw [hid] at e1
      rw [e1] at ha
      have fin : ∀ q, (n = 0 ∨ q + n ≤ cs.length) → a = ⟨k, 0 + q, none⟩ → cellsL ρ σ segs = some (cs.take q ++ ws ++ cs.drop (q + n)) → ∃ w', (storeCells a ws).run P w = .ok () w' ∧ Gam ρ W0 σ (s.put b segs) w' := by
        intro q hq hae hr
        by_cases hn0 : n = 0
        · have hws : ws = [] := List.length_eq_zero_iff.1 (hn.trans hn0)
          subst hws
          refine ⟨w, rfl, ?_⟩
          have := g.put hmem hown (cs' := cs) (tail := tail) hk (by rw [hr, hn0]; simp) h1 hfull hroom
          rw [setRow_self w k _ _ _ h1, hid] at this
          exact this
        · have hq' : q + n ≤ cs.length := by omega
          rw [hae, Nat.zero_add]
          have hrun := run_storeCells_at (P := P) k q ch.elem ws 0 (cs ++ tail).toArray w h1 (by simp; omega) (cellsL_one ρ σ _ _ hv)
          refine ⟨_, hrun, ?_⟩
          have := g.put hmem hown (tail := tail) hk hr h1 hfull (fun j st hj => by
            obtain ⟨m, hm1, hm2⟩ := hroom j st hj
            refine ⟨m, hm1, ?_⟩
            rw [← hm2]
            simp only [List.length_append, List.length_take, List.length_drop]
            omega)
          rw [hid] at this
          have he : ((cs ++ tail).toArray.toList.take (q + 0) ++ ws ++ (cs ++ tail).toArray.toList.drop (q + 0 + ws.length)) = cs.take q ++ ws ++ cs.drop (q + n) ++ tail := by
            simp only [Nat.add_zero, hn]
            rw [List.take_append_of_le_length (by omega), List.drop_append_of_le_length (by omega)]
            simp only [List.append_assoc]
          rw [he]
          exact this
      split at hsegs
      · rename_i hst
        obtain ⟨h3, h4⟩ := putC_ok g.pc _ _ _ _ _ _ _ hsegs e2 hv hn
        simp only [hst, if_true, Option.some.injEq] at ha
        exact fin c h3 ha.symm h4
      · rename_i hst
        obtain ⟨h3, h4, h5⟩ := putS_ok g.pc _ _ _ _ _ _ _ _ _ hsegs e2 hv hn
        simp only [hst, if_false, natOf, if_pos h3, Option.map_some, Option.some.injEq] at ha
        exact fin _ (.inr h4) ha.symm h5
    · cases h
  · cases h

/-- The store of a value into a variable of type t. -/
def storeV (P : Program) (s : S) (t : TypeId) (b c st : Nat) (i : E) (x : V) : Option S := match P.info? t with
  | some inf => if ncL x.flat = some inf.size then storeC s b c st i x.flat inf.size else none
  | none => none
theorem flat_tup (l : List V) : ncL (V.tup l).flat = none := by simp [V.flat, ncL, V.nc]
theorem storeV_ok {ρ : Env} {W0 : World} {σ : Sig} {s s' : S} {w : World} (g : Gam ρ W0 σ s w) {P : Program} {t : TypeId} {b c st : Nat} {i : E} {x : V} {v : Value} {a : Addr} (h : storeV P s t b c st i x = some s') (ha : addrOf ρ σ b c st i = some a)
    (hx : x.val ρ σ = some v) : ∃ w', (storeVar t a v).run P w = .ok () w' ∧ Gam ρ W0 σ s' w' := by
  unfold storeV at h
  split at h
  · rename_i inf hi
    split at h
    · rename_i hsz
      rcases V.val_cells hx with ⟨l, rfl⟩ | hc
      · rw [flat_tup] at hsz; cases hsz
      · have hf := V.flat_cells ρ σ x _ hc
        have hlen := ncL_cells ρ σ _ _ _ hsz hf
        obtain ⟨w', h1, h2⟩ := storeC_ok g h ha hf hlen P
        refine ⟨w', ?_, h2⟩
        unfold storeVar
        simp only [Sem.run_bind, run_sizeOf' hi, Result.andThen_ok]
        rw [if_neg (by simpa using hlen)]
        simpa using h1
    · cases h
  · cases h

/-! ### New blocks -/
def S.new (s : S) (elem : TypeId) (segs : List V) : S := { s with nx := s.nx + 1, H := { id := s.nx, own := true, elem, full := true, fresh := true, segs } :: s.H }

theorem sig_none {σ : Sig} {x y : Nat × Nat} : (σ ++ [x])[σ.length]? = some x := by simp
theorem Chunk.lt {ρ : Env} {W0 : World} {σ : Sig} {w : World} {c : Chunk} (h : c.ok ρ W0 σ w) : c.id < σ.length := by
  obtain ⟨k, o, cs, e1, _⟩ := h
  exact (List.getElem?_eq_some_iff.1 e1).1
theorem blk_ext {σ τ : Sig} {i : Nat} (h : i < σ.length) : blk (σ ++ τ) i = blk σ i := by simp [blk, List.getElem?_append_left h]

theorem heap_alloc_new (w : World) (o : Obj) : (w.alloc o).heap[w.heap.size]? = some o := by
  show (w.heap.push o)[w.heap.size]? = some o
  simp
theorem heap_alloc_old (w : World) (o : Obj) {k : Nat} (h : k < w.heap.size) : (w.alloc o).heap[k]? = w.heap[k]? := by
  show (w.heap.push o)[k]? = w.heap[k]?
  rw [Array.getElem?_push_lt h, Array.getElem?_eq_getElem h]
theorem Gam.new {ρ : Env} {W0 : World} {σ : Sig} {s : S} {w : World} (g : Gam ρ W0 σ s w) (elem : TypeId) {segs : List V} {cs : List Value} (hc : cellsL ρ σ segs = some cs) :
    Gam ρ W0 (σ ++ [(w.heap.size, 0)]) (s.new elem segs) (w.alloc (.cells cs.toArray elem)) where
  pc := g.pc
  len := by simp [S.new, g.len]
  ids := by
    simp only [S.new, List.map_cons, List.nodup_cons]
    refine ⟨fun h => ?_, g.ids⟩
    obtain ⟨c, hc, he⟩ := List.mem_map.1 h
    have := Chunk.lt (g.ch c hc)
    rw [g.len, he] at this
    omega
  ch := fun c hcm => by
    simp only [S.new, List.mem_cons] at hcm
    rcases hcm with rfl | hcm
    · refine ⟨w.heap.size, 0, cs, by rw [← g.len]; simp, cellsL_ext _ _ _ hc, by simp, fun _ => g.size, ?_⟩
      simp only [if_true]
      exact ⟨trivial, [], by rw [heap_alloc_new]; simp, fun _ => rfl, fun j st e => by cases e⟩
    · obtain ⟨k, o, ds, e1, e2, e3, e4, e5⟩ := g.ch c hcm
      have hne : k ≠ w.heap.size := by omega
      refine ⟨k, o, ds, sig_ext e1, cellsL_ext _ _ _ e2, by simp; omega, e4, ?_⟩
      split
      · rename_i ho
        rw [if_pos ho] at e5
        refine ⟨e5.1, ?_⟩
        obtain ⟨tail, h1, h2, h3⟩ := e5.2
        exact ⟨tail, by rw [heap_alloc_old _ _ e3]; exact h1, h2, fun j st e => by obtain ⟨m, hm1, hm2⟩ := h3 j st e; exact ⟨m, sig_ext hm1, hm2⟩⟩
      · rename_i ho
        rw [if_neg ho] at e5
        intro j v hj
        rw [World.cell?_alloc_old w _ ⟨k, o + j, none⟩ hne]
        exact e5 j v hj
  sep := by
    intro c hcm d hdm ho hne
    simp only [S.new, List.mem_cons] at hcm hdm
    have old : ∀ c, c ∈ s.H → ∃ k, blk (σ ++ [(w.heap.size, 0)]) c.id = some k ∧ k < w.heap.size := by
      intro c hc
      obtain ⟨k, o, ds, e1, e2, e3, _⟩ := g.ch c hc
      exact ⟨k, by simp [blk, sig_ext e1], e3⟩
    have new : blk (σ ++ [(w.heap.size, 0)]) s.nx = some w.heap.size := by simp [blk, ← g.len]
    rcases hcm with rfl | hcm <;> rcases hdm with rfl | hdm
    · exact absurd rfl hne
    · obtain ⟨k, h1, h2⟩ := old d hdm
      rw [h1, new]
      intro e; cases e; omega
    · obtain ⟨k, h1, h2⟩ := old c hcm
      rw [h1, new]
      intro e; cases e; omega
    · rw [blk_ext (Chunk.lt (g.ch c hcm)), blk_ext (Chunk.lt (g.ch d hdm))]
      exact g.sep c hcm d hdm ho hne
  size := by simp; have := g.size; omega
  tape := g.tape
  os := g.os
  out := g.out
  kept := fun k hk h => by
    have h1 : w.heap[k]? = W0.heap[k]? := g.kept k hk fun c hc ho => by
      have := h c (by simp [S.new, hc]) ho
      rwa [blk_ext (Chunk.lt (g.ch c hc))] at this
    have : k < w.heap.size := by have := g.size; omega
    rw [← h1]
    exact heap_alloc_old _ _ this
end Go.SX
