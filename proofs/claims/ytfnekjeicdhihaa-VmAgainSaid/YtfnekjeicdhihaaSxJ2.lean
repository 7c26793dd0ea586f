/- A symbolic executor, part J2: append. -/
import Derived.Test.YtfnekjeicdhihaaSxJ
import Derived.Laws.AppendOwn
import Derived.Laws.BytesString
namespace Go.SX

section
variable {ρ : Env} {W0 : World} {σ : Sig} {P : Program}

theorem Gam.newG {s : S} {w : World} (g : Gam ρ W0 σ s w) (elem : TypeId) {segs : List V} {cs tail : List Value} (hc : cellsL ρ σ segs = some cs) (τ : Sig) (full : Bool) (room : Option (Nat × Nat)) (hfull : full = true → tail = [])
    (hroom : ∀ j st, room = some (j, st) → ∃ m, (σ ++ (w.heap.size, 0) :: τ)[j]? = some m ∧ (cs ++ tail).length = m.1 * st) :
    Gam ρ W0 (σ ++ (w.heap.size, 0) :: τ) { s with nx := s.nx + 1 + τ.length, H := { id := s.nx, own := true, elem, full, fresh := true, room, segs } :: s.H } (w.alloc (.cells (cs ++ tail).toArray elem)) where
  pc := g.pc
  len := by simp [g.len]; omega
  ids := by
    simp only [List.map_cons, List.nodup_cons]
    refine ⟨fun h => ?_, g.ids⟩
    obtain ⟨c, hc, he⟩ := List.mem_map.1 h
    have := Chunk.lt (g.ch c hc)
    rw [g.len, he] at this
    omega
  ch := fun c hcm => by
    simp only [List.mem_cons] at hcm
    rcases hcm with rfl | hcm
    · refine ⟨w.heap.size, 0, cs, by rw [← g.len]; simp, cellsL_ext _ _ _ hc, by simp, fun _ => g.size, ?_⟩
      simp only [if_true]
      exact ⟨trivial, tail, by rw [heap_alloc_new], hfull, hroom⟩
    · obtain ⟨k, o, ds, e1, e2, e3, e4, e5⟩ := g.ch c hcm
      have hne : k ≠ w.heap.size := by omega
      refine ⟨k, o, ds, sig_ext e1, cellsL_ext _ _ _ e2, by simp; omega, e4, ?_⟩
      split
      · rename_i ho
        rw [if_pos ho] at e5
        refine ⟨e5.1, ?_⟩
        obtain ⟨tl, h1, h2, h3⟩ := e5.2
        exact ⟨tl, by rw [heap_alloc_old _ _ e3]; exact h1, h2, fun j st e => by obtain ⟨m, hm1, hm2⟩ := h3 j st e; exact ⟨m, sig_ext hm1, hm2⟩⟩
      · rename_i ho
        rw [if_neg ho] at e5
        intro j v hj
        rw [World.cell?_alloc_old w _ ⟨k, o + j, none⟩ hne]
        exact e5 j v hj
  sep := by
    intro c hcm d hdm ho hne
    simp only [List.mem_cons] at hcm hdm
    have old : ∀ c, c ∈ s.H → ∃ k, blk (σ ++ (w.heap.size, 0) :: τ) c.id = some k ∧ k < w.heap.size := by
      intro c hc
      obtain ⟨k, o, ds, e1, e2, e3, _⟩ := g.ch c hc
      exact ⟨k, by simp [blk, sig_ext e1], e3⟩
    have new : blk (σ ++ (w.heap.size, 0) :: τ) s.nx = some w.heap.size := by simp [blk, ← g.len]
    rcases hcm with rfl | hcm <;> rcases hdm with rfl | hdm
    · exact absurd rfl hne
    · obtain ⟨k, h1, h2⟩ := old d hdm
      rw [h1, new]
      intro e; cases e; omega
    · obtain ⟨k, h1, h2⟩ := old c hcm
      rw [h1, new]
      intro e; cases e; omega
    · rw [blk_ext (Chunk.lt (g.ch c hcm)), blk_ext (Chunk.lt (g.ch d hdm))]
      exact g.sep c hcm d hdm ho hne
  size := by simp; have := g.size; omega
  tape := g.tape
  os := g.os
  out := g.out
  kept := fun k hk h => by
    have h1 : w.heap[k]? = W0.heap[k]? := g.kept k hk fun c hc ho => by
      have := h c (by simp [hc]) ho
      rwa [blk_ext (Chunk.lt (g.ch c hc))] at this
    have : k < w.heap.size := by have := g.size; omega
    rw [← h1]
    exact heap_alloc_old _ _ this

/-! ### Rows -/
/-- 'len' rows of 'sz' cells from cell c on. -/
def takeRows (sz : Nat) (len : E) : List V → Nat → Option (List V)
  | [], _ => none
  | x :: xs, c => match c with
    | 0 => match x with
      | .arr a ks rows => if rows = len ∧ ks.length = sz then some [.arr a ks rows] else none
      | _ => none
    | c + 1 => match x.nc with
      | some k => if k ≤ c + 1 then takeRows sz len xs (c + 1 - k) else none
      | none => none
theorem takeRows_ok (sz : Nat) (len : E) : ∀ (l : List V) (c : Nat) (r : List V) (cs : List Value), takeRows sz len l c = some r → cellsL ρ σ l = some cs →
    0 ≤ len.n ρ ∧ c + (len.n ρ).toNat * sz ≤ cs.length ∧ cellsL ρ σ r = some ((cs.drop c).take ((len.n ρ).toNat * sz))
  | [], c, r, cs, h, hc => by simp [takeRows] at h
  | x :: xs, 0, r, cs, h, hc => by
    obtain ⟨a, b, h1, h2, rfl⟩ := cellsL_cons hc
    simp only [takeRows] at h
    split at h
    · rename_i e ks rows
      split at h
      · rename_i hcond
        obtain ⟨rfl, rfl⟩ := hcond
        cases h
        have h1' := h1
        simp only [V.cells, natOf] at h1
        split at h1
        · rename_i h0
          simp only [Option.map_some, Option.some.injEq] at h1
          subst h1
          refine ⟨h0, by simp [arrCells_length], ?_⟩
          rw [cellsL_cons_some h1' (l := []) (by rfl)]
          simp only [List.append_nil, List.drop_zero]
          rw [List.take_append_of_le_length (by rw [arrCells_length]; exact Nat.le_refl _), List.take_of_length_le (by rw [arrCells_length]; exact Nat.le_refl _)]
        · cases h1
      · cases h
    · cases h
  | x :: xs, c + 1, r, cs, h, hc => by
    obtain ⟨a, b, h1, h2, rfl⟩ := cellsL_cons hc
    simp only [takeRows] at h
    split at h
    · rename_i k hk
      have hl := V.nc_cells ρ σ x k a hk h1
      split at h
      · rename_i hkc
        obtain ⟨h3, h4, h5⟩ := takeRows_ok sz len xs _ r b h h2
        refine ⟨h3, by simp only [List.length_append]; omega, ?_⟩
        rw [h5, List.drop_append, List.drop_eq_nil_of_le (as := a) (i := c + 1) (by omega), hl, List.nil_append]
      · cases h
    · cases h
/-- The cells of a slice. -/
def rowsOf (s : S) (sz : Nat) : V → Option (E × List V)
  | .slice b c st _ len _ => if st = 0 then match s.find b with
      | some ch => match len with
        | .c n => if 0 ≤ n then (takeC s.pc ch.segs c (n.toNat * sz)).map fun l => (.c n, l) else none
        | len => (takeRows sz len ch.segs c).map fun l => (len, l)
      | none => none
    else none
  | .ms _ b len => if known s.pc (mkB .lt (.c 0) len) = true then match s.find b with
      | some ch => (takeRows sz len ch.segs 0).map fun l => (len, l)
      | none => none
    else none
  | _ => none
theorem rowsOf_ok {s : S} {w : World} (g : Gam ρ W0 σ s w) {sz : Nat} {v : V} {n : E} {l : List V} (h : rowsOf s sz v = some (n, l)) {x : Value} (hv : v.val ρ σ = some x) :
    ∃ a m cap vs, x = .slice (some a) m cap ∧ (m : Int) = n.n ρ ∧ cellsL ρ σ l = some vs ∧ vs.length = m * sz ∧ ∀ j u, vs[j]? = some u → w.cell? (a.add j) = some u := by
  unfold rowsOf at h
  split at h
  · rename_i b c st i len cap
    split at h
    · rename_i hst
      subst hst
      split at h
      · rename_i ch hch
        obtain ⟨hmem, hid⟩ := S.find_mem hch
        obtain ⟨k, o, cs, e1, e2, e3, e4, e5⟩ := g.ch ch hmem
        have hcell : ∀ j v, cs[j]? = some v → w.cell? ⟨k, o + j, none⟩ = some v := by
          split at e5
          · obtain ⟨rfl, tail, h1, _⟩ := e5
            intro j v hj
            have hjl := (List.getElem?_eq_some_iff.1 hj).1
            simp only [World.cell?, h1, Nat.zero_add, Option.isSome_none, Bool.false_eq_true, if_false, List.getElem?_toArray]
            rw [List.getElem?_append_left hjl, hj]
          · exact e5
        simp only [V.val] at hv
        split at hv
        · rename_i a m cap' ha hm hcap
          cases hv
          unfold addrOf at ha
          rw [hid] at e1
          rw [e1] at ha
          simp only [if_true, Option.some.injEq] at ha
          have hm' : (m : Int) = len.n ρ := by
            unfold natOf at hm
            split at hm
            · cases hm; omega
            · cases hm
          have fin : ∀ q, (q = 0 ∨ c + q ≤ cs.length) → cellsL ρ σ l = some ((cs.drop c).take q) → q = m * sz → n.n ρ = len.n ρ → ∃ a' m' cap'' vs, Value.slice (some a) m cap' = .slice (some a') m' cap'' ∧ (m' : Int) = n.n ρ ∧ cellsL ρ σ l = some vs ∧ vs.length = m' * sz ∧ ∀ j u, vs[j]? = some u → w.cell? (a'.add j) = some u := by
            intro q hq hl hqm hn
            refine ⟨a, m, cap', _, rfl, by rw [hn]; exact hm', hl, by simp only [List.length_take, List.length_drop]; omega, fun j u hj => ?_⟩
            rw [List.getElem?_take] at hj
            split at hj
            · rw [List.getElem?_drop] at hj
              rw [← ha, add_mk, Nat.add_assoc]
              exact hcell _ _ hj
            · cases hj
          split at h
          · rename_i n'
            split at h
            · rename_i h0
              simp only [Option.map_eq_some_iff, Prod.mk.injEq] at h
              obtain ⟨l', hl', rfl, rfl⟩ := h
              obtain ⟨h3, h4⟩ := takeC_ok g.pc _ _ _ _ _ hl' e2
              rw [E.n_c] at hm'
              exact fin _ h3 h4 (by congr 1; omega) rfl
            · cases h
          · simp only [Option.map_eq_some_iff, Prod.mk.injEq] at h
            obtain ⟨l', hl', rfl, rfl⟩ := h
            obtain ⟨h3, h4, h5⟩ := takeRows_ok sz _ _ _ _ _ hl' e2
            exact fin _ (.inr h4) h5 (by congr 1; omega) rfl
        · cases hv
      · cases h
    · cases h
  · rename_i o b len
    split at h
    · rename_i hk
      have hpos := known_n g.pc hk
      rw [mkB_n, E.n_c] at hpos
      have hpos := lt_of hpos
      split at h
      · rename_i ch hch
        obtain ⟨hmem, hid⟩ := S.find_mem hch
        obtain ⟨k, o', cs, e1, e2, e3, e4, e5⟩ := g.ch ch hmem
        have hcell : ∀ j v, cs[j]? = some v → w.cell? ⟨k, o' + j, none⟩ = some v := by
          split at e5
          · obtain ⟨rfl, tail, h1, _⟩ := e5
            intro j v hj
            have hjl := (List.getElem?_eq_some_iff.1 hj).1
            simp only [World.cell?, h1, Nat.zero_add, Option.isSome_none, Bool.false_eq_true, if_false, List.getElem?_toArray]
            rw [List.getElem?_append_left hjl, hj]
          · exact e5
        simp only [V.val] at hv
        obtain ⟨k', q', m, cap', hb, rfl, hm⟩ := ms_some hv hpos
        rw [hid, hb] at e1
        cases e1
        simp only [Option.map_eq_some_iff, Prod.mk.injEq] at h
        obtain ⟨l', hl', rfl, rfl⟩ := h
        obtain ⟨h3, h4, h5⟩ := takeRows_ok sz _ _ _ _ _ hl' e2
        refine ⟨⟨k, o', none⟩, m, cap', _, rfl, hm, h5, by simp only [List.length_take, List.length_drop]; rw [Nat.min_eq_left (by omega)]; congr 1; omega, fun j u hj => ?_⟩
        rw [List.getElem?_take] at hj
        split at hj
        · rw [List.getElem?_drop, Nat.zero_add] at hj
          rw [add_mk]
          exact hcell _ _ hj
        · cases hj
      · cases h
    · cases h
  · cases h

theorem natOf_of {e : E} (h : 0 ≤ e.n ρ) : natOf ρ e = some (e.n ρ).toNat := by unfold natOf; rw [if_pos h]
/-- One list behind another, as a row of rows where that may be. -/
def joinV (ks? : Option (List CK)) (olds news : List V) : List V := match ks?, olds with
  | some ks, [] => if news.length = ks.length then match setsS ks (.c 0) .zz 0 news with
      | some a => [.arr a ks (.c 1)]
      | none => news
    else news
  | some ks, [.arr a ks' n] => if ks' = ks ∧ news.length = ks.length then match setsS ks n a 0 news with
      | some a' => [.arr a' ks (mkB .add n (.c 1))]
      | none => [.arr a ks' n] ++ news
    else [.arr a ks' n] ++ news
  | _, olds => olds ++ news
theorem arr_more {ks : List CK} {i : E} (hi : 0 ≤ i.n ρ) {a r : E} {vs : List V} {ws : List Value} (h : setsS ks i a 0 vs = some r) (hw : cellsL ρ σ vs = some ws) (hl : vs.length = ks.length) :
    arrCells (r.a ρ) ks ((i.n ρ).toNat + 1) = arrCells (a.a ρ) ks (i.n ρ).toNat ++ ws := by
  obtain ⟨h1, h2⟩ := setsS_ok (ρ := ρ) (σ := σ) ks i ((i.n ρ).toNat + 1) hi (Nat.lt_succ_self _) vs a 0 r ws h hw (by omega)
  rw [h2, Nat.add_zero, List.drop_eq_nil_of_le (by rw [arrCells_length, Nat.add_mul]; omega), List.append_nil]
  congr 1
  simp only [arrCells]
  rw [← List.map_take, List.take_range, Nat.min_eq_left (by rw [Nat.add_mul]; omega)]
theorem joinV_ok {ks? : Option (List CK)} {olds news : List V} {a b : List Value} (h1 : cellsL ρ σ olds = some a) (h2 : cellsL ρ σ news = some b) : cellsL ρ σ (joinV ks? olds news) = some (a ++ b) := by
  have gen := cellsL_append_some h1 h2
  unfold joinV
  split
  · rename_i ks
    simp only [cellsL, Option.some.injEq] at h1
    subst h1
    split
    · rename_i hl
      split
      · rename_i r hr
        have := arr_more (ρ := ρ) (σ := σ) (i := .c 0) (Int.le_refl 0) hr h2 hl
        have h3 : (V.arr r ks (.c 1)).cells ρ σ = some ([] ++ b) := by
          simp only [V.cells]
          rw [natOf_of (by rw [E.n_c]; omega), Option.map_some, E.n_c]
          congr 1
          rw [show (1 : Int).toNat = ((E.c 0).n ρ).toNat + 1 from rfl, this]
          show arrCells _ ks 0 ++ b = [] ++ b
          simp [arrCells]
        have h4 := cellsL_cons_some h3 (l := []) (by rfl)
        simpa using h4
      · simpa using h2
    · simpa using h2
  · rename_i ks e ks' n
    split
    · rename_i hc
      obtain ⟨rfl, hl⟩ := hc
      split
      · rename_i r hr
        obtain ⟨p, q, e1, e2, rfl⟩ := cellsL_cons h1
        simp only [cellsL, Option.some.injEq] at e2
        subst e2
        simp only [V.cells, natOf] at e1
        split at e1
        · rename_i h0
          simp only [Option.map_some, Option.some.injEq] at e1
          subst e1
          have := arr_more (ρ := ρ) (σ := σ) h0 hr h2 hl
          have h3 : (V.arr r ks' (mkB .add n (.c 1))).cells ρ σ = some (arrCells (e.a ρ) ks' (n.n ρ).toNat ++ b) := by
            have he : (mkB .add n (.c 1)).n ρ = n.n ρ + 1 := by rw [mkB_n, E.n_c]; rfl
            simp only [V.cells]
            rw [natOf_of (by omega), Option.map_some, he]
            congr 1
            rw [show (n.n ρ + 1).toNat = (n.n ρ).toNat + 1 by omega, this]
          have h4 := cellsL_cons_some h3 (l := []) (by rfl)
          simpa using h4
        · cases e1
      · exact gen
    · exact gen
  · exact gen

/-- The kinds of a type's cells, where all are plain. -/
def flatKs (P : Program) : Nat → TypeId → Option (List CK)
  | 0, _ => none
  | f + 1, t => match P.underlying t with
    | some .bool => some [.bool]
    | some (.int k) => some [.int k]
    | some (.struct fs) => (fs.toList.mapM fun x => flatKs P f x.type).map List.flatten
    | some (.array n e) => (flatKs P f e).map fun l => (List.replicate n l).flatten
    | _ => none
def expandL : List V → List V
  | [] => []
  | .arr a ks (.c n) :: xs => (if 0 ≤ n then arrPart a ks 0 (n.toNat * ks.length) else [.arr a ks (.c n)]) ++ expandL xs
  | x :: xs => x :: expandL xs
theorem expandL_ok : ∀ {l : List V} {cs : List Value}, cellsL ρ σ l = some cs → cellsL ρ σ (expandL l) = some cs
  | [], cs, h => h
  | x :: xs, cs, h => by
    obtain ⟨a, b, h1, h2, rfl⟩ := cellsL_cons h
    have gen : cellsL ρ σ (x :: expandL xs) = some (a ++ b) := cellsL_cons_some h1 (expandL_ok h2)
    unfold expandL
    split
    · rename_i he; cases he
    · rename_i e ks n ys he
      cases he
      split
      · rename_i h0
        refine cellsL_append_some ?_ (expandL_ok h2)
        rw [arrPart_cells]
        simp only [V.cells] at h1
        rw [natOf_of (by rw [E.n_c]; exact h0), E.n_c] at h1
        simp only [Option.map_some, Option.some.injEq] at h1
        rw [← h1]
        simp [arrCells]
      · exact gen
    · rename_i y ys _ he
      cases he
      exact gen
/-- New rows, cell by cell where they are just one row. -/
def oneRow (ks? : Option (List CK)) (news : List V) : List V := match ks? with
  | some ks => if (expandL news).length = ks.length then expandL news else news
  | none => news
theorem oneRow_ok {ks? : Option (List CK)} {news : List V} {b : List Value} (h : cellsL ρ σ news = some b) : cellsL ρ σ (oneRow ks? news) = some b := by
  unfold oneRow
  split
  · split
    · exact expandL_ok h
    · exact h
  · exact h
def joinW (P : Program) (el : TypeId) (olds news : List V) : List V := joinV (flatKs P 4 el) olds (oneRow (flatKs P 4 el) news)
theorem joinW_ok {el : TypeId} {olds news : List V} {a b : List Value} (h1 : cellsL ρ σ olds = some a) (h2 : cellsL ρ σ news = some b) : cellsL ρ σ (joinW P el olds news) = some (a ++ b) := joinV_ok h1 (oneRow_ok h2)

/-! ### Append -/
theorem run_builtin {w : World} {o : Oper} {f : Operand → Value} {b : Builtin} {args : Array Operand} {ts : Array TypeId} (ho : o.op = .call { callee := .builtin b, args, argTypes := ts }) {r : Result Next}
    (h : (builtin b ts o.type (args.map fun | .const _ => true | _ => false) (args.map f)).run P w = r) : (execOp f o).run P w = r := by
  simp only [execOp, ho, resolve, Sem.run_bind, Sem.run_pure, Result.andThen_ok, invoke]
  exact h
def S.growC (s : S) (elem : TypeId) (sz : Nat) (segs : List V) : S := { s with nx := s.nx + 2, H := { id := s.nx, own := true, elem, full := false, fresh := true, room := some (s.nx + 1, sz), segs } :: s.H }
def growR (s : S) (elem : TypeId) (sz : Nat) (need : E) (segs : List V) : R := .val (.slice s.nx 0 0 (.c 0) need (.s (s.nx + 1))) (s.growC elem sz segs)
/-- May so many elements be made? -/
def fits (s : S) (bytes : Nat) (need : E) : Bool := decide (0 < bytes) && known s.pc (mkB .le need (.c (140737488355328 / bytes : Nat)))
theorem div_mul_le' (L b : Nat) : ((L / b : Nat) : Int) * b ≤ (L : Int) := by
  have := Nat.div_mul_le_self L b
  exact_mod_cast this
theorem fits_pos {s : S} {bytes : Nat} {need : E} (h : fits s bytes need = true) : 0 < bytes := by
  unfold fits at h
  rw [Bool.and_eq_true] at h
  exact of_decide_eq_true h.1
theorem slice_val {b c : Nat} {i len : E} {cap : Cap} {k o m cv : Nat} (h1 : σ[b]? = some (k, o)) (hm : (m : Int) = len.n ρ) (h3 : capOf ρ σ cap = some cv) : (V.slice b c 0 i len cap).val ρ σ = some (.slice (some ⟨k, o + c, none⟩) m cv) := by
  have h2 : 0 ≤ len.n ρ := by omega
  simp only [V.val, addrOf, h1, if_true, natOf_of h2, h3]
  rw [← hm, Int.toNat_natCast]
theorem fits_ok {s : S} {w : World} (g : Gam ρ W0 σ s w) {bytes : Nat} {need : E} (h : fits s bytes need = true) : need.n ρ * bytes ≤ 140737488355328 := by
  unfold fits at h
  rw [Bool.and_eq_true] at h
  have h1 := known_n g.pc h.2
  rw [mkB_n, E.n_c] at h1
  have h2 := le_of h1
  have h3 := div_mul_le' 140737488355328 bytes
  have h4 : need.n ρ * bytes ≤ ((140737488355328 / bytes : Nat) : Int) * bytes := Int.mul_le_mul_of_nonneg_right h2 (by omega)
  omega
def xAppend (P : Program) (t u : TypeId) (sv xv : V) (s : S) : Option (List R) := if t = u then match P.underlying t with
  | some (.slice el) => match P.info? el with
    | some inf => match inf.zero, rowsOf s inf.size xv with
      | some z, some (n, news) => if z.cells.size = inf.size then match sv with
        | .nils => if known s.pc (mkB .lt (.c 0) n) = true ∧ fits s inf.bytes n = true then some [growR s el inf.size n (joinW P el [] news)] else none
        | .slice b c st i (.c 0) (.e (.c 0)) => if st = 0 ∧ known s.pc (mkB .lt (.c 0) n) = true ∧ fits s inf.bytes n = true then some [growR s el inf.size n (joinW P el [] news)] else none
        | .slice b c st i len (.s j) => match rowsOf s inf.size (.slice b c st i len (.s j)), s.find b with
          | some (_, olds), some ch => if st = 0 ∧ c = 0 ∧ ch.own = true ∧ ch.full = false ∧ ch.room = some (j, inf.size) ∧ sameL ch.segs olds = true ∧ fits s inf.bytes (mkB .add len n) = true then
              some [growR s el inf.size (mkB .add len n) (joinW P el olds news), .val (.slice b c st i (mkB .add len n) (.s j)) (s.put b (joinW P el olds news))]
            else none
          | _, _ => none
        | _ => none
        else none
      | _, _ => none
    | none => none
  | _ => none
  else none

theorem sig_two {n : Nat} (h : σ.length = n) {x y : Nat × Nat} : (σ ++ [x, y])[n + 1]? = some y := by
  rw [← h, List.getElem?_append_right (by omega), show σ.length + 1 - σ.length = 1 by omega]
  rfl
theorem Gam.growC {s : S} {w : World} (g : Gam ρ W0 σ s w) (elem : TypeId) (sz : Nat) {segs : List V} {cs tail : List Value} (hc : cellsL ρ σ segs = some cs) (cap : Nat) (hlen : (cs ++ tail).length = cap * sz) :
    Gam ρ W0 (σ ++ [(w.heap.size, 0), (cap, 0)]) (s.growC elem sz segs) (w.alloc (.cells (cs ++ tail).toArray elem)) := by
  have := g.newG elem hc [(cap, 0)] false (some (s.nx + 1, sz)) (fun h => nomatch h) (fun j st e => by
    cases e
    refine ⟨(cap, 0), ?_, hlen⟩
    exact sig_two g.len)
  exact this

theorem run_append_room' {w : World} (t ty e : TypeId) (i : TypeInfo) (ht : P.underlying t = some (.slice e)) (hi : P.info? e = some i) (b : Addr) (sLen sCap : Nat) (a : Addr) (n c : Nat) (news : List Value) (hl : news.length = n * i.size)
    (hnews : ∀ j v, news[j]? = some v → w.cell? (a.add j) = some v) (hr : sLen + n ≤ sCap) {w' : World} (hs : (storeCells (b.add (sLen * i.size)) news).run P w = .ok () w') :
    (Builtin.append_ #[t, t] ty #[.slice (some b) sLen sCap, .slice (some a) n c]).run P w = .ok (.slice (some b) (sLen + n) sCap) w' := by
  have hf := run_firstCells_some (P := P) w i.size n a n c news hl hnews
  simp [Builtin.append_, run_underlying ht, sizeOf, typeInfo, hi, Builtin.lenOf, hr, hf, hs]

theorem xAppend_ok {s : S} {w : World} (g : Gam ρ W0 σ s w) {t u : TypeId} {sv xv : V} {rs : List R} (h : xAppend P t u sv xv s = some rs) {o : Oper} {f : Operand → Value} {x y : Operand} (ho : o.op = .call { callee := .builtin .append, args := #[x, y], argTypes := #[t, u] })
    (hx : sv.val ρ σ = some (f x)) (hy : xv.val ρ σ = some (f y)) : ∃ r ∈ rs, RS ρ W0 σ ((execOp f o).run P w) r := by
  unfold xAppend at h
  split at h
  case isFalse => cases h
  rename_i htu
  subst htu
  split at h
  case h_2 => cases h
  rename_i el hu
  split at h
  case h_2 => cases h
  rename_i inf hinf
  split at h
  case h_2 => cases h
  rename_i z n news hz hnews
  split at h
  case isFalse => cases h
  rename_i hzs
  obtain ⟨a, m, cap, vs, hfy, hm, hvs, hvl, hvc⟩ := rowsOf_ok g hnews hy
  have hrun : ∀ r w', (Builtin.append_ #[t, t] o.type #[f x, f y]).run P w = .ok r w' → (execOp f o).run P w = .ok (.value r) w' := by
    intro r w' hr
    refine run_builtin ho ?_
    have he : (Array.map f #[x, y]) = #[f x, f y] := by simp
    rw [he]
    simp only [builtin, Sem.run_bind, hr, Result.andThen_ok]
    rfl
  have zc : ∀ q, (Builtin.zeroCells z.cells q).size = q * inf.size := by intro q; rw [size_zeroCells, hzs]
  split at h
  · -- a nil slice
    split at h
    · rename_i hc
      cases h
      have h1 := known_n g.pc hc.1
      rw [mkB_n, E.n_c] at h1
      have h1 := lt_of h1
      have h2 := fits_ok g hc.2
      have hb : 0 < inf.bytes := by
        exact fits_pos hc.2
      simp only [V.val, Option.some.injEq] at hx
      have hmb : m * inf.bytes ≤ 140737488355328 := by
        have h3 : ((m * inf.bytes : Nat) : Int) ≤ 140737488355328 := by rw [Int.natCast_mul, hm]; exact h2
        omega
      have hmm : m ≤ m * inf.bytes := Nat.le_mul_of_pos_right _ hb
      have hr := run_append_nil (P := P) w t o.type el inf z hu hinf hz a m cap vs hvl hvc (by omega) (by omega) (by omega)
      rw [← hfy, hx] at hr
      have hj := joinW_ok (P := P) (el := el) (olds := []) (a := []) rfl hvs
      rw [List.nil_append] at hj
      refine oneR (RS.later [(w.heap.size, 0), (grownCap w m 0 el, 0)] (hrun _ _ hr) ?_ ?_)
      · exact slice_val (k := w.heap.size) (o := 0) (by rw [← g.len]; simp) hm (by simp only [capOf, sig_two g.len, Option.map_some])
      · have hge := grownCap_ge w m 0 el
        have := g.drew.growC el inf.size (tail := (Builtin.zeroCells z.cells (grownCap w m 0 el - m)).toList) hj (grownCap w m 0 el) (by
          simp only [List.length_append, hvl, Array.length_toList, zc]
          rw [← Nat.add_mul, Nat.add_sub_cancel' hge])
        have he : (vs.toArray ++ Builtin.zeroCells z.cells (grownCap w m 0 el - m)) = (vs ++ (Builtin.zeroCells z.cells (grownCap w m 0 el - m)).toList).toArray := by
          apply Array.ext'; simp
        rw [he]
        exact this
    · cases h
  · rename_i b c st i
    split at h
    · rename_i hc
      obtain ⟨rfl, hc1, hc2⟩ := hc
      cases h
      have h1 := known_n g.pc hc1
      rw [mkB_n, E.n_c] at h1
      have h1 := lt_of h1
      have h2 := fits_ok g hc2
      have hb : 0 < inf.bytes := fits_pos hc2
      simp only [V.val] at hx
      split at hx
      · rename_i a0 n0 m0 q1 q2 q3
        have hn0 : n0 = 0 := by unfold natOf at q2; rw [E.n_c] at q2; simp at q2; exact q2.symm
        have hm0 : m0 = 0 := by simp only [capOf, natOf, E.n_c] at q3; simp at q3; exact q3.symm
        subst hn0; subst hm0
        simp only [Option.some.injEq] at hx
        have hmb : m * inf.bytes ≤ 140737488355328 := by
          have h3 : ((m * inf.bytes : Nat) : Int) ≤ 140737488355328 := by rw [Int.natCast_mul, hm]; exact h2
          omega
        have hmm : m ≤ m * inf.bytes := Nat.le_mul_of_pos_right _ hb
        have hr := run_append_grow (P := P) w t o.type el inf z hu hinf hz a0 0 0 [] (by simp) (by simp) a m cap vs hvl hvc (by omega) (by omega) (growslice_fits (by omega) (by rw [Nat.zero_add]; exact hmb))
        rw [← hfy, hx] at hr
        have hj := joinW_ok (P := P) (el := el) (olds := []) (a := []) rfl hvs
        rw [List.nil_append] at hj
        refine oneR (RS.later [(w.heap.size, 0), (grownCap w (0 + m) 0 el, 0)] (hrun _ _ hr) ?_ ?_)
        · exact slice_val (k := w.heap.size) (o := 0) (by rw [← g.len]; simp) (by rw [← hm, Nat.zero_add]) (by simp only [capOf, sig_two g.len, Option.map_some])
        · have hge := grownCap_ge w (0 + m) 0 el
          have := g.drew.growC el inf.size (tail := (Builtin.zeroCells z.cells (grownCap w (0 + m) 0 el - (0 + m))).toList) hj (grownCap w (0 + m) 0 el) (by
            simp only [List.length_append, hvl, Array.length_toList, zc]
            rw [← Nat.add_mul]
            congr 1; omega)
          have he : (([] : List Value).toArray ++ vs.toArray ++ Builtin.zeroCells z.cells (grownCap w (0 + m) 0 el - (0 + m))) = (vs ++ (Builtin.zeroCells z.cells (grownCap w (0 + m) 0 el - (0 + m))).toList).toArray := by
            apply Array.ext'; simp
          rw [he]
          exact this
      · cases hx
    · cases h
  · rename_i b c st i len j
    split at h
    · rename_i n0 olds ch holds hch
      split at h
      · rename_i hc
        obtain ⟨rfl, rfl, hown, hnf, hroom, hsame, hfits⟩ := hc
        cases h
        have hsegs := sameL_eq _ _ hsame
        obtain ⟨b', m', cap', os, hfx, hm', hos, hol, hoc⟩ := rowsOf_ok g holds hx
        have hlen : (m' : Int) = len.n ρ := by
          simp only [V.val] at hx
          split at hx
          · rename_i e1 e2 e3
            simp only [Option.some.injEq] at hx
            rw [hfx] at hx
            cases hx
            unfold natOf at e2
            split at e2
            · cases e2; omega
            · cases e2
          · cases hx
        have hneed : (mkB .add len n).n ρ = ((m' + m : Nat) : Int) := by rw [mkB_n]; show len.n ρ + n.n ρ = _; omega
        have h2 := fits_ok g hfits
        rw [hneed] at h2
        have hb : 0 < inf.bytes := by
          exact fits_pos hfits
        have hmb : (m' + m) * inf.bytes ≤ 140737488355328 := by
          have h3 : (((m' + m) * inf.bytes : Nat) : Int) ≤ 140737488355328 := by rw [Int.natCast_mul]; exact h2
          omega
        have hmm : (m' + m) ≤ (m' + m) * inf.bytes := Nat.le_mul_of_pos_right _ hb
        have hj := joinW_ok (P := P) (el := el) hos hvs
        obtain ⟨hmem, hid⟩ := S.find_mem hch
        obtain ⟨k, o', cs, e1, e2, e3, e4, e5⟩ := g.ch ch hmem
        rw [if_pos hown] at e5
        obtain ⟨rfl, tail, h3, h4, h5⟩ := e5
        rw [hsegs] at e2
        have hcs : cs = os := by rw [hos] at e2; exact (Option.some.inj e2).symm
        subst hcs
        obtain ⟨mj, hj1, hj2⟩ := h5 j inf.size hroom
        have hcapv : cap' = mj.1 ∧ b' = ⟨k, 0, none⟩ := by
          simp only [V.val] at hx
          split at hx
          · rename_i q1 q2 q3
            simp only [Option.some.injEq] at hx
            rw [hfx] at hx
            cases hx
            simp only [capOf, hj1, Option.map_some, Option.some.injEq] at q3
            unfold addrOf at q1
            rw [hid] at e1
            rw [e1] at q1
            simp only [if_true, Option.some.injEq, Nat.add_zero] at q1
            exact ⟨q3.symm, q1.symm⟩
          · cases hx
        obtain ⟨rfl, rfl⟩ := hcapv
        by_cases hroom' : m' + m ≤ mj.1
        · -- there is room
          have hfitc : cs.length + vs.length ≤ (cs ++ tail).length := by
            rw [hj2, hol, hvl, ← Nat.add_mul]
            exact Nat.mul_le_mul_right _ hroom'
          have hst := run_storeCells_at (P := P) k cs.length ch.elem vs 0 (cs ++ tail).toArray w h3 (by simpa using hfitc) (cellsL_one ρ σ _ _ hvs)
          have hadd : (⟨k, 0, none⟩ : Addr).add (m' * inf.size) = ⟨k, cs.length, none⟩ := by rw [add_mk, Nat.zero_add, hol]
          rw [← hadd] at hst
          have hr := run_append_room' (P := P) t o.type el inf hu hinf ⟨k, 0, none⟩ m' mj.1 a m cap vs hvl hvc hroom' hst
          rw [← hfx, ← hfy] at hr
          refine ⟨.val (.slice b 0 0 i (mkB .add len n) (.s j)) (s.put b (joinW P el olds news)), by simp, RS.now (hrun _ _ hr) ?_ ?_⟩
          · rw [hid] at e1
            exact slice_val e1 hneed.symm (by simp only [capOf, hj1, Option.map_some])
          · have hput := g.put hmem hown (cs' := cs ++ vs) (tail := tail.drop vs.length) (segs := joinW P el olds news) (by simp [blk, e1]) hj h3 (fun hf => by rw [hnf] at hf; cases hf) (fun j' st' he => by
              rw [hroom] at he
              cases he
              refine ⟨mj, hj1, ?_⟩
              rw [← hj2]
              simp only [List.length_append, List.length_drop] at *
              omega)
            rw [hid] at hput
            have he : ((cs ++ tail).toArray.toList.take (cs.length + 0) ++ vs ++ (cs ++ tail).toArray.toList.drop (cs.length + 0 + vs.length)) = cs ++ vs ++ tail.drop vs.length := by
              simp [List.drop_append]
            rw [he]
            exact hput
        · -- it grows
          have hr := run_append_grow (P := P) w t o.type el inf z hu hinf hz ⟨k, 0, none⟩ m' mj.1 cs hol hoc a m cap vs hvl hvc (by omega) (by omega) (growslice_fits (by omega) hmb)
          rw [← hfx, ← hfy] at hr
          refine ⟨growR s el inf.size (mkB .add len n) (joinW P el olds news), by simp, RS.later [(w.heap.size, 0), (grownCap w (m' + m) mj.1 el, 0)] (hrun _ _ hr) ?_ ?_⟩
          · exact slice_val (k := w.heap.size) (o := 0) (by rw [← g.len]; simp) hneed.symm (by simp only [capOf, sig_two g.len, Option.map_some])
          · have hge := grownCap_ge w (m' + m) mj.1 el
            have := g.drew.growC el inf.size (tail := (Builtin.zeroCells z.cells (grownCap w (m' + m) mj.1 el - (m' + m))).toList) hj (grownCap w (m' + m) mj.1 el) (by
              simp only [List.length_append, hvl, hol, Array.length_toList, zc]
              rw [← Nat.add_mul, ← Nat.add_mul, Nat.add_sub_cancel' hge])
            have he : (cs.toArray ++ vs.toArray ++ Builtin.zeroCells z.cells (grownCap w (m' + m) mj.1 el - (m' + m))) = (cs ++ vs ++ (Builtin.zeroCells z.cells (grownCap w (m' + m) mj.1 el - (m' + m))).toList).toArray := by
              apply Array.ext'; simp
            rw [he]
            exact this
      · cases h
    · cases h
  · cases h

/-- Nothing is appended. -/
def xApp0 (P : Program) (t u : TypeId) (sv : V) (s : S) : Option (List R) := if t = u then match P.underlying t with
  | some (.slice el) => match P.info? el with
    | some inf => match sv with
      | .nils => some [.val .nils s]
      | .slice b c st i (.c 0) (.e (.c 0)) => some [.val (.slice b c st i (.c 0) (.e (.c 0))) s]
      | .slice b c st i len (.s j) => match rowsOf s inf.size (.slice b c st i len (.s j)), s.find b with
        | some (_, olds), some ch => if ch.own = true ∧ ch.room = some (j, inf.size) ∧ sameL ch.segs olds = true ∧ 0 < inf.size then some [.val (.slice b c st i len (.s j)) s] else none
        | _, _ => none
      | _ => none
    | none => none
  | _ => none
  else none
def lenV : V → Option E
  | .nils => some (.c 0)
  | .slice _ _ _ _ len _ => some len
  | .ms _ _ len => some len
  | _ => none
def xApp (P : Program) (t u : TypeId) (sv xv : V) (s : S) : Option (List R) := match lenV xv with
  | some len => fork s (mkB .lt (.c 0) len) fun s' b => if b = true then xAppend P t u sv xv s' else xApp0 P t u sv s'
  | none => none
theorem run_firstCells_zero {w : World} (size : Nat) (a : Option Addr) (c : Nat) : (Builtin.firstCells size 0 (.slice a 0 c)).run P w = .ok #[] w := by
  cases a
  · rfl
  · simp only [Builtin.firstCells, Nat.zero_mul]
    exact run_loadCells_list w _ [] (by simp)
theorem run_append_none {w : World} (t ty e : TypeId) (i : TypeInfo) (ht : P.underlying t = some (.slice e)) (hi : P.info? e = some i) (b : Option Addr) (l c : Nat) (a : Option Addr) (c' : Nat) (h : l ≤ c) :
    (Builtin.append_ #[t, t] ty #[.slice b l c, .slice a 0 c']).run P w = .ok (.slice b l c) w := by
  have hf := run_firstCells_zero (P := P) (w := w) i.size a c'
  cases b
  · simp [Builtin.append_, run_underlying ht, sizeOf, typeInfo, hi, Builtin.lenOf, hf, h]
  · rename_i b
    have hs : (storeCells (b.add (l * i.size)) []).run P w = .ok () w := rfl
    simp [Builtin.append_, run_underlying ht, sizeOf, typeInfo, hi, Builtin.lenOf, hf, h, hs]
theorem lenV_ok {v : V} {len : E} (h : lenV v = some len) {x : Value} (hv : v.val ρ σ = some x) : ∃ a n c, x = .slice a n c ∧ (n : Int) = len.n ρ := by
  unfold lenV at h
  split at h
  · cases h
    simp only [V.val, Option.some.injEq] at hv
    exact ⟨none, 0, 0, hv.symm, rfl⟩
  · cases h
    simp only [V.val] at hv
    split at hv
    · rename_i a n m q1 q2 q3
      cases hv
      refine ⟨some a, n, m, rfl, ?_⟩
      unfold natOf at q2
      split at q2
      · cases q2; omega
      · cases q2
    · cases hv
  · cases h
    simp only [V.val] at hv
    exact ms_len hv
  · cases h
theorem xApp0_ok {s : S} {w : World} (g : Gam ρ W0 σ s w) {t u : TypeId} {sv : V} {rs : List R} (h : xApp0 P t u sv s = some rs) {o : Oper} {f : Operand → Value} {x y : Operand} (ho : o.op = .call { callee := .builtin .append, args := #[x, y], argTypes := #[t, u] })
    (hx : sv.val ρ σ = some (f x)) {a : Option Addr} {c : Nat} (hy : f y = .slice a 0 c) : ∃ r ∈ rs, RS ρ W0 σ ((execOp f o).run P w) r := by
  unfold xApp0 at h
  split at h
  case isFalse => cases h
  rename_i htu
  subst htu
  split at h
  case h_2 => cases h
  rename_i el hu
  split at h
  case h_2 => cases h
  rename_i inf hinf
  have key : ∀ b l c', f x = .slice b l c' → l ≤ c' → (execOp f o).run P w = .ok (.value (f x)) w := by
    intro b l c' hfx hle
    refine run_builtin ho ?_
    have he : (Array.map f #[x, y]) = #[f x, f y] := by simp
    rw [he, hfx, hy]
    have := run_append_none (P := P) (w := w) t o.type el inf hu hinf b l c' a c hle
    simp only [builtin, Sem.run_bind, this, Result.andThen_ok]
    rfl
  split at h
  · cases h
    have hx0 := hx
    simp only [V.val, Option.some.injEq] at hx
    exact oneR (RS.now (key none 0 0 hx.symm (Nat.le_refl _)) hx0 g)
  · rename_i b c st i
    cases h
    have hx0 := hx
    simp only [V.val] at hx
    split at hx
    · rename_i a0 n0 m0 q1 q2 q3
      have hn0 : n0 = 0 := by unfold natOf at q2; rw [E.n_c] at q2; simp at q2; exact q2.symm
      simp only [Option.some.injEq] at hx
      exact oneR (RS.now (key _ _ _ hx.symm (by omega)) hx0 g)
    · cases hx
  · rename_i b c' st i len j
    split at h
    · rename_i n0 olds ch holds hch
      split at h
      · rename_i hc
        obtain ⟨hown, hroom, hsame, hsz⟩ := hc
        cases h
        have hsegs := sameL_eq _ _ hsame
        obtain ⟨b', m', cap', os, hfx, hm', hos, hol, hoc⟩ := rowsOf_ok g holds hx
        obtain ⟨hmem, hid⟩ := S.find_mem hch
        obtain ⟨k, o', cs, e1, e2, e3, e4, e5⟩ := g.ch ch hmem
        rw [if_pos hown] at e5
        obtain ⟨rfl, tail, h3, h4, h5⟩ := e5
        rw [hsegs] at e2
        have hcs : cs = os := by rw [hos] at e2; exact (Option.some.inj e2).symm
        subst hcs
        obtain ⟨mj, hj1, hj2⟩ := h5 j inf.size hroom
        have hx0 := hx
        simp only [V.val] at hx
        split at hx
        · rename_i q1 q2 q3
          simp only [Option.some.injEq] at hx
          rw [hfx] at hx
          cases hx
          simp only [capOf, hj1, Option.map_some, Option.some.injEq] at q3
          refine oneR (RS.now (key _ _ _ hfx ?_) hx0 g)
          rw [← q3]
          refine Nat.le_of_mul_le_mul_right ?_ hsz
          rw [← hj2, ← hol, List.length_append]
          omega
        · cases hx
      · cases h
    · cases h
  · cases h
theorem xApp_ok {s : S} {w : World} (g : Gam ρ W0 σ s w) {t u : TypeId} {sv xv : V} {rs : List R} (h : xApp P t u sv xv s = some rs) {o : Oper} {f : Operand → Value} {x y : Operand} (ho : o.op = .call { callee := .builtin .append, args := #[x, y], argTypes := #[t, u] })
    (hx : sv.val ρ σ = some (f x)) (hy : xv.val ρ σ = some (f y)) : ∃ r ∈ rs, RS ρ W0 σ ((execOp f o).run P w) r := by
  unfold xApp at h
  split at h
  · rename_i len hlen
    obtain ⟨a, n, c, hfy, hn⟩ := lenV_ok hlen hy
    refine fork_ok g h fun s' b rs' g' hb h => ?_
    split at h
    · exact xAppend_ok g' h ho hx hy
    · rename_i hb'
      have h0 : ¬ (mkB .lt (.c 0) len).n ρ ≠ 0 := fun e => hb' (hb.2 e)
      rw [mkB_n, E.n_c] at h0
      have hn0 : n = 0 := by
        rcases Nat.eq_zero_or_pos n with e | e
        · exact e
        · exfalso
          apply h0
          show (if (0 : Int) < len.n ρ then (1 : Int) else 0) ≠ 0
          rw [if_pos (by omega)]
          decide
      rw [hn0] at hfy
      exact xApp0_ok g' h ho hx hfy
  · cases h

/-! ### A string of bytes -/
def rowB (s : S) (b : Nat) (len : E) : Option E := match s.find b with
  | some ch => match ch.segs with
    | [.arr a [.int .u8] n] => if n = len then some a else none
    | _ => none
  | none => none
def isU8 (P : Program) (e : TypeId) : Bool := match P.underlying e with
  | some (.int .u8) => true
  | _ => false
def xStr (P : Program) (src dst : TypeId) (v : V) (s : S) : Option (List R) := match P.underlying src, P.underlying dst with
  | some (.slice e), some .string => if isU8 P e = true then match v with
      | .nils => some [.val (.str .empty) s]
      | .ms _ b len => (rowB s b len).map fun a => [.val (.bs a len) s]
      | .slice b 0 0 _ len _ => (rowB s b len).map fun a => [.val (.bs a len) s]
      | _ => none
    else none
  | _, _ => none
theorem bytesOf_map (f : Int → Nat → Int) (n : Nat) : arrCells f [.int .u8] n = ((List.range n).map fun i => f (i : Nat) 0).map (Value.int .u8) := by
  simp only [arrCells, List.length_singleton, Nat.mul_one, List.map_map]
  apply List.map_congr_left
  intro p _
  simp [arrCell, Nat.mod_one, CK.mk]
theorem rowB_ok {s : S} {w : World} (g : Gam ρ W0 σ s w) {b : Nat} {len a : E} (h : rowB s b len = some a) {k o : Nat} (hb : σ[b]? = some (k, o)) {n : Nat} (hn : (n : Int) = len.n ρ) (cap : Nat) :
    (Conv.bytesToString (.slice (some ⟨k, o, none⟩) n cap)).run P w = .ok (.string (bytesOf (a.a ρ) n)) w := by
  unfold rowB at h
  split at h
  · rename_i ch hch
    split at h
    · rename_i e n' hsegs
      split at h
      · rename_i hl
        subst hl
        cases h
        obtain ⟨hmem, hid⟩ := S.find_mem hch
        obtain ⟨k', o', cs, e1, e2, e3, e4, e5⟩ := g.ch ch hmem
        rw [hid, hb] at e1
        cases e1
        have hcell : ∀ j v, cs[j]? = some v → w.cell? ⟨k, o + j, none⟩ = some v := by
          split at e5
          · obtain ⟨rfl, tail, h1, _⟩ := e5
            intro j v hj
            have hjl := (List.getElem?_eq_some_iff.1 hj).1
            simp only [World.cell?, h1, Nat.zero_add, Option.isSome_none, Bool.false_eq_true, if_false, List.getElem?_toArray]
            rw [List.getElem?_append_left hjl, hj]
          · exact e5
        rw [hsegs] at e2
        obtain ⟨p, q, c1, c2, rfl⟩ := cellsL_cons e2
        simp only [cellsL, Option.some.injEq] at c2
        subst c2
        simp only [V.cells] at c1
        rw [natOf_of (by omega)] at c1
        simp only [Option.map_some, Option.some.injEq] at c1
        subst c1
        rw [List.append_nil, show (n'.n ρ).toNat = n by omega, bytesOf_map] at hcell
        have hl := run_loadCells_list (P := P) w ⟨k, o, none⟩ _ (fun j v hj => by rw [add_mk]; exact hcell j v hj)
        simp only [List.length_map, List.length_range] at hl
        exact run_bytesToString w _ n cap _ hl
      · cases h
    · cases h
  · cases h
theorem xStr_ok {s : S} {w : World} (g : Gam ρ W0 σ s w) {src dst : TypeId} {v : V} {rs : List R} (h : xStr P src dst v s = some rs) {o : Oper} {f : Operand → Value} {x : Operand} (ho : o.op = .convert src dst x) (hv : v.val ρ σ = some (f x)) :
    ∃ r ∈ rs, RS ρ W0 σ ((execOp f o).run P w) r := by
  unfold xStr at h
  split at h
  · rename_i e hs hd
    split at h
    · rename_i hu8
      have he : P.underlying e = some (.int .u8) := by
        unfold isU8 at hu8
        split at hu8
        · assumption
        · cases hu8
      have key : ∀ y, (convert src dst (f x)).run P w = .ok y w → (execOp f o).run P w = .ok (.value y) w := by
        intro y hy
        unfold execOp
        simp only [ho, Sem.run_bind, hy, Result.andThen_ok]
        rfl
      split at h
      · cases h
        simp only [V.val, Option.some.injEq] at hv
        refine oneR (RS.now (x := .string .empty) (key _ ?_) rfl g)
        rw [← hv]
        rw [run_convert_bytes_string w src dst e _ _ _ hs he hd]
        simp [Conv.bytesToString]
      · rename_i q b len
        simp only [Option.map_eq_some_iff] at h
        obtain ⟨a, ha, rfl⟩ := h
        simp only [V.val] at hv
        obtain ⟨ad, n, c, hfx, hn⟩ := ms_len hv
        have hval : (V.bs a len).val ρ σ = some (.string (bytesOf (a.a ρ) n)) := by
          simp only [V.val]
          rw [natOf_of (by omega), show (len.n ρ).toNat = n by omega]; rfl
        refine oneR (RS.now (key _ ?_) hval g)
        by_cases h0 : 0 < len.n ρ
        · obtain ⟨k, o', n', c', hb, hfx', hn'⟩ := ms_some hv h0
          rw [hfx', run_convert_bytes_string w src dst e _ _ _ hs he hd]
          have : n' = n := by omega
          subst this
          exact rowB_ok g ha hb hn' c'
        · have hn0 : n = 0 := by omega
          subst hn0
          rw [hfx, run_convert_bytes_string w src dst e _ _ _ hs he hd]
          cases ad with
          | none => simp [Conv.bytesToString, bytesOf]
          | some ad =>
            have hl := run_loadCells_list (P := P) w ad [] (by simp)
            exact run_bytesToString w ad 0 c [] hl
      · rename_i b i len cap
        simp only [Option.map_eq_some_iff] at h
        obtain ⟨a, ha, rfl⟩ := h
        simp only [V.val] at hv
        split at hv
        · rename_i ad n m q1 q2 q3
          simp only [Option.some.injEq] at hv
          have hn : (n : Int) = len.n ρ := by
            unfold natOf at q2
            split at q2
            · cases q2; omega
            · cases q2
          have hval : (V.bs a len).val ρ σ = some (.string (bytesOf (a.a ρ) n)) := by
            simp only [V.val]
            rw [natOf_of (by omega), show (len.n ρ).toNat = n by omega]; rfl
          refine oneR (RS.now (key _ ?_) hval g)
          rw [← hv, run_convert_bytes_string w src dst e _ _ _ hs he hd]
          unfold addrOf at q1
          split at q1
          · rename_i k o' hb
            simp only [if_true, Option.some.injEq, Nat.add_zero] at q1
            rw [← q1]
            exact rowB_ok g ha hb hn m
          · cases q1
        · cases hv
      · cases h
    · cases h
  · cases h

/-! ### A slice's literal -/
theorem range_rep {α : Type} [Inhabited α] (L : List α) (hk : 0 < L.length) : ∀ n : Nat, (List.range (n * L.length)).map (fun i => L[i % L.length]!) = (List.replicate n L).flatten
  | 0 => by simp
  | n + 1 => by
    rw [Nat.add_mul, Nat.one_mul, List.range_add, List.map_append, range_rep L hk n, List.replicate_succ', List.flatten_append]
    congr 1
    simp only [List.map_map, List.flatten_cons, List.flatten_nil, List.append_nil]
    apply List.ext_getElem?
    intro j
    simp only [List.getElem?_map, Function.comp]
    by_cases hj : j < L.length
    · have e : (n * L.length + j) % L.length = j := by rw [Nat.mul_comm, Nat.mul_add_mod]; exact Nat.mod_eq_of_lt hj
      simp [hj, e]
    · simp [hj, List.getElem?_eq_none (Nat.le_of_not_lt hj)]
def xBuildSlice (P : Program) (e : Operand → Option V) (t : TypeId) (len : Nat) (parts : Array (Nat × Operand)) (s : S) : Option (List R) :=
  match evParts e parts.toList, P.underlying t with
  | some vs, some (.slice el) => if len = 0 then match P.info? el with
      | some _ => if vs.isEmpty = true ∧ parts.size = 0 then some [.val (.slice s.nx 0 0 (.c 0) (.c 0) (.e (.c 0))) (s.new el [])] else none
      | none => none
    else match P.info? el, zeroOf P el with
    | some inf, some zs => match ncL zs with
      | some k => if k = inf.size ∧ 0 < k ∧ 0 < len ∧ len * k ≤ 16777216 then
          (fillV (fun i => some (i * inf.size, inf.size)) (List.replicate len zs).flatten vs).map fun l => [.val (.slice s.nx 0 0 (.c 0) (.c len) (.e (.c len))) (s.new el l)]
        else none
      | none => none
    | _, _ => none
  | _, _ => none
theorem cellsL_rep {zs : List V} {cs : List Value} (h : cellsL ρ σ zs = some cs) : ∀ n : Nat, cellsL ρ σ (List.replicate n zs).flatten = some (List.replicate n cs).flatten
  | 0 => rfl
  | n + 1 => by
    simp only [List.replicate_succ, List.flatten_cons]
    exact cellsL_append_some h (cellsL_rep h n)
theorem xBuildSlice_ok {s : S} {w : World} (g : Gam ρ W0 σ s w) {t : TypeId} {len : Nat} {parts : Array (Nat × Operand)} {rs : List R} {e : Operand → Option V} {f : Operand → Value} (he : EV ρ σ e f) (h : xBuildSlice P e t len parts s = some rs) {o : Oper} (ho : o.op = .buildSlice t len parts) :
    ∃ r ∈ rs, RS ρ W0 σ ((execOp f o).run P w) r := by
  unfold xBuildSlice at h
  split at h
  · rename_i vs el hvs hu
    split at h
    · rename_i hl0
      subst hl0
      split at h
      · rename_i inf hi
        split at h
        · rename_i hc
          cases h
          have hp : parts = #[] := Array.size_eq_zero_iff.1 hc.2
          subst hp
          refine oneR (RS.later [(w.heap.size, 0)] (x := .slice (some ⟨w.heap.size, 0, none⟩) 0 0) ?_ ?_ (g.new el (cs := []) (by rfl)))
          · simp only [execOp, ho, Instr.buildSlice, Sem.run_bind, run_underlying hu, Result.andThen_ok, run_sizeOf' hi]
            have hr : (Array.range 0).map (fun _ : Nat => (default : Value)) = #[] := by simp
            simp [newRow, Instr.fill, hr]
          · exact slice_val (k := w.heap.size) (o := 0) (m := 0) (cv := 0) (by rw [← g.len]; simp) (by rw [E.n_c]; rfl) (by simp only [capOf]; rw [natOf_of (by rw [E.n_c]; omega), E.n_c]; rfl)
        · cases h
      · cases h
    split at h
    · rename_i inf zs hi hzs
      split at h
      · rename_i k hk
        split at h
        · rename_i hc
          obtain ⟨hks, hk0, hlen0, hbig⟩ := hc
          simp only [Option.map_eq_some_iff] at h
          obtain ⟨l, hl, rfl⟩ := h
          obtain ⟨inf', z, hi', hz, hcz⟩ := zeroOf_info hzs ρ σ
          rw [hi] at hi'
          cases hi'
          obtain ⟨h1, h2⟩ := evParts_ok he _ _ hvs
          have hzl := ncL_cells ρ σ _ _ _ hk hcz
          have hbase : cellsL ρ σ (List.replicate len zs).flatten = some ((Array.range (len * inf.size)).map (fun i => z.cells[i % z.cells.size]!)).toList := by
            rw [cellsL_rep hcz len, ← range_rep z.cells.toList (by omega) len]
            congr 1
            rw [Array.toList_map, Array.toList_range, hzl, hks]
            apply List.map_congr_left
            intro i _
            have e1 : z.cells.size = inf.size := by rw [← hks, ← hzl]; simp
            rw [e1]
            simp only [getElem!_def, Array.getElem?_toList]
          obtain ⟨cs', h3, h4⟩ := fillV_ok _ _ _ _ _ ((parts.map fun (i, x) => (i, f x)).toList) hl hbase (by simpa using h2) (by simpa using h1)
          refine oneR (RS.later [(w.heap.size, 0)] (x := .slice (some ⟨w.heap.size, 0, none⟩) len len) ?_ ?_ (g.new el h4))
          · have hne : ¬ (len * inf.size = 0) := by
              rw [← hks]
              exact Nat.ne_of_gt (Nat.mul_pos hlen0 hk0)
            have hnb : ¬ (16777216 < len * inf.size) := by rw [← hks]; omega
            have hzr : (zeroValue el).run P w = .ok z w := by simp [zeroValue, typeInfo, hi, hz]
            simp only [execOp, ho, Instr.buildSlice, Sem.run_bind, run_underlying hu, Result.andThen_ok, run_sizeOf' hi]
            simp only [hne, if_false, Nat.reducePow, gt_iff_lt, hnb, hzr, Sem.run_bind, Result.andThen_ok, Sem.run_pure, h3]
            simp [newRow]
          · exact slice_val (k := w.heap.size) (o := 0) (by rw [← g.len]; simp) (by rw [E.n_c]) (by simp only [capOf]; rw [natOf_of (by rw [E.n_c]; omega), E.n_c, Int.toNat_natCast])
        · cases h
      · cases h
    · cases h
  · cases h
end
end Go.SX
