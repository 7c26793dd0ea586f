/- A symbolic executor, part H: the operations, one by one. -/
import Derived.Test.YtfnekjeicdhihaaSxG
namespace Go.SX

section
variable {ρ : Env} {W0 : World} {σ : Sig} {P : Program}

theorem addr_add {b c st : Nat} {i : E} {a : Addr} (h : addrOf ρ σ b c st i = some a) (d : Nat) : addrOf ρ σ b (c + d) st i = some (a.add d) := by
  unfold addrOf at *
  split at h
  · split at h
    · rename_i hs; cases h; simp only [hs, if_true]; rw [add_mk, Nat.add_assoc]
    · rename_i hs
      simp only [Option.map_eq_some_iff] at h
      obtain ⟨n, hn, rfl⟩ := h
      simp only [hs, if_false, hn, Option.map_some, add_mk]
      congr 2
      omega
  · cases h
theorem zeroOf_info {t : TypeId} {l : List V} (h : zeroOf P t = some l) (ρ : Env) (σ : Sig) : ∃ inf z, P.info? t = some inf ∧ inf.zero = some z ∧ cellsL ρ σ l = some z.cells.toList := by
  unfold zeroOf at h
  split at h
  · rename_i inf hi
    split at h
    · rename_i z l' hz _
      split at h
      · rename_i hc
        cases h
        exact ⟨inf, z, hi, hz, zchk_ok ρ σ _ _ hc⟩
      · cases h
    · cases h
  · cases h

def ptrV (n : Nat) : V := .ptr n 0 0 (.c 0)
theorem ptrV_val (w : World) {s : S} (g : σ.length = s.nx) : (ptrV s.nx).val ρ (σ ++ [(w.heap.size, 0)]) = some (.pointer (some ⟨w.heap.size, 0, none⟩)) := by
  simp [ptrV, V.val, addrOf, ← g]

/-! ### New memory -/
def xAlloc (P : Program) (t : TypeId) (s : S) : Option (List R) := (zeroOf P t).map fun l => [.val (ptrV s.nx) (s.new t l)]
theorem xAlloc_ok {s : S} {w : World} (g : Gam ρ W0 σ s w) {t : TypeId} {rs : List R} (h : xAlloc P t s = some rs) {o : Oper} {f : Operand → Value} (ho : o.op = .alloc t) :
    ∃ r ∈ rs, RS ρ W0 σ ((execOp f o).run P w) r := by
  simp only [xAlloc, Option.map_eq_some_iff] at h
  obtain ⟨l, hl, rfl⟩ := h
  obtain ⟨z, h1, h2⟩ := zeroOf_ok hl ρ σ w
  refine oneR (RS.later [(w.heap.size, 0)] ?_ (ptrV_val w g.len) (g.new t h2))
  simp [execOp, ho, Instr.alloc, h1, newVar, newRow]
def notTup : V → Bool
  | .tup _ => false
  | _ => true
theorem val_flat {x : V} {v : Value} (h : x.val ρ σ = some v) (hn : notTup x = true) : cellsL ρ σ x.flat = some v.cells.toList := by
  rcases V.val_cells h with ⟨l, rfl⟩ | hc
  · cases hn
  · exact V.flat_cells ρ σ x _ hc
def xBox (t : TypeId) (v : V) (s : S) : Option (List R) := if notTup v = true then some [.val (ptrV s.nx) (s.new t v.flat)] else none
theorem xBox_ok {s : S} {w : World} (g : Gam ρ W0 σ s w) {t : TypeId} {v : V} {rs : List R} (h : xBox t v s = some rs) {o : Oper} {f : Operand → Value} {x : Operand} (ho : o.op = .box t x) (hv : v.val ρ σ = some (f x)) :
    ∃ r ∈ rs, RS ρ W0 σ ((execOp f o).run P w) r := by
  unfold xBox at h
  split at h
  · rename_i hn
    cases h
    refine oneR (RS.later [(w.heap.size, 0)] ?_ (ptrV_val w g.len) (g.new t (val_flat hv hn)))
    simp [execOp, ho, Instr.box, newVar, newRow]
  · cases h

/-! ### Aggregates -/
def evParts (e : Operand → Option V) (ps : List (Nat × Operand)) : Option (List (Nat × V)) := ps.mapM fun p => (e p.2).map fun v => (p.1, v)
theorem evParts_ok {e : Operand → Option V} {f : Operand → Value} (he : EV ρ σ e f) : ∀ (ps : List (Nat × Operand)) (vs : List (Nat × V)), evParts e ps = some vs →
    vs.length = ps.length ∧ ∀ (j : Nat) (p : Nat × V), vs[j]? = some p → ∃ q : Nat × Value, (ps.map fun x => (x.1, f x.2))[j]? = some q ∧ q.1 = p.1 ∧ p.2.val ρ σ = some q.2
  | [], vs, h => by
    simp only [evParts, List.mapM_nil, Option.pure_def, Option.some.injEq] at h
    subst h
    exact ⟨rfl, fun j p hp => by simp at hp⟩
  | p :: ps, vs, h => by
    simp only [evParts, List.mapM_cons, Option.bind_eq_bind, Option.pure_def] at h
    cases hp : e p.2 with
    | none => simp [hp] at h
    | some v =>
      cases hr : ps.mapM (fun p => (e p.2).map fun v => (p.1, v)) with
      | none => simp [hp, hr] at h
      | some rest =>
        simp only [hp, hr, Option.map_some, Option.bind_some, Option.some.injEq] at h
        subst h
        obtain ⟨h1, h2⟩ := evParts_ok he ps rest hr
        refine ⟨by simp [h1], fun j q hq => ?_⟩
        cases j with
        | zero =>
          simp only [List.getElem?_cons_zero, Option.some.injEq] at hq
          subst hq
          exact ⟨(p.1, f p.2), by simp, rfl, he _ _ hp⟩
        | succ j => simpa using h2 j q (by simpa using hq)
def xBuild (P : Program) (e : Operand → Option V) (t : TypeId) (parts : Array (Nat × Operand)) (s : S) : Option (List R) :=
  match evParts e parts.toList, zeroOf P t, P.underlying t with
  | some vs, some zs, some (.struct fields) => match fields.toList.mapM (fun f => (P.info? f.type).map fun i => (f.offset, i.size)) with
    | some places => (fillV (places.toArray[·]?) zs vs).map fun l => [.val (.agg l) s]
    | none => none
  | some vs, some zs, some (.array _ el) => match P.info? el with
    | some ie => (fillV (fun i => some (i * ie.size, ie.size)) zs vs).map fun l => [.val (.agg l) s]
    | none => none
  | _, _, _ => none
theorem xBuild_ok {s : S} {w : World} (g : Gam ρ W0 σ s w) {t : TypeId} {parts : Array (Nat × Operand)} {rs : List R} {e : Operand → Option V} {f : Operand → Value} (he : EV ρ σ e f) (h : xBuild P e t parts s = some rs) {o : Oper} (ho : o.op = .build t parts) :
    ∃ r ∈ rs, RS ρ W0 σ ((execOp f o).run P w) r := by
  have fin : ∀ l cells, P.built t (parts.map fun (i, x) => (i, f x)).toList = some cells → cellsL ρ σ l = some cells.toList → ∃ r ∈ [R.val (.agg l) s], RS ρ W0 σ ((execOp f o).run P w) r := by
    intro l cells hb hc
    refine oneR (RS.now (x := .agg cells) (w' := w) ?_ (by simp [V.val, hc]) g)
    simp only [execOp, ho, Sem.run_bind, run_build w t _ cells hb, Result.andThen_ok]
    rfl
  unfold xBuild at h
  split at h
  · rename_i vs zs fields hvs hzs hu
    obtain ⟨inf, z, hi, hz, hc⟩ := zeroOf_info hzs ρ σ
    obtain ⟨h1, h2⟩ := evParts_ok he _ _ hvs
    split at h
    · rename_i places hpl
      simp only [Option.map_eq_some_iff] at h
      obtain ⟨l, hl, rfl⟩ := h
      obtain ⟨cs', h3, h4⟩ := fillV_ok _ _ _ _ z.cells ((parts.map fun (i, x) => (i, f x)).toList) hl hc (by simpa using h2) (by simpa using h1)
      exact fin l cs' (by simp only [Program.built, hi, hu, hz, hpl]; exact h3) h4
    · cases h
  · rename_i vs zs n el hvs hzs hu
    obtain ⟨inf, z, hi, hz, hc⟩ := zeroOf_info hzs ρ σ
    obtain ⟨h1, h2⟩ := evParts_ok he _ _ hvs
    split at h
    · rename_i ie hie
      simp only [Option.map_eq_some_iff] at h
      obtain ⟨l, hl, rfl⟩ := h
      obtain ⟨cs', h3, h4⟩ := fillV_ok _ _ _ _ z.cells ((parts.map fun (i, x) => (i, f x)).toList) hl hc (by simpa using h2) (by simpa using h1)
      exact fin l cs' (by simp only [Program.built, hi, hu, hz, hie]; exact h3) h4
    · cases h
  · cases h

/-! ### Memory -/
def xLoad (P : Program) (t : TypeId) (v : V) (s : S) : Option (List R) := match v with
  | .ptr b c st i => (loadV P s t b c st i).map fun x => [.val x s]
  | _ => none
theorem xLoad_ok {s : S} {w : World} (g : Gam ρ W0 σ s w) {t : TypeId} {v : V} {rs : List R} (h : xLoad P t v s = some rs) {o : Oper} {f : Operand → Value} {x : Operand} (ho : o.op = .load t x) (hv : v.val ρ σ = some (f x)) :
    ∃ r ∈ rs, RS ρ W0 σ ((execOp f o).run P w) r := by
  unfold xLoad at h
  split at h
  · rename_i b c st i
    simp only [Option.map_eq_some_iff] at h
    obtain ⟨y, hy, rfl⟩ := h
    simp only [V.val, Option.map_eq_some_iff] at hv
    obtain ⟨a, ha, hfx⟩ := hv
    obtain ⟨u, h1, h2⟩ := loadV_ok g hy ha
    refine oneR (RS.now (w' := w) ?_ h1 g)
    simp [execOp, ho, ← hfx, Instr.loadAt, Instr.sureAddr, h2]
  · cases h
def xStore (P : Program) (t : TypeId) (v x : V) (s : S) : Option (List R) := match v with
  | .ptr b c st i => (storeV P s t b c st i x).map fun s' => [.val (.tup []) s']
  | _ => none
theorem xStore_ok {s : S} {w : World} (g : Gam ρ W0 σ s w) {t : TypeId} {v y : V} {rs : List R} (h : xStore P t v y s = some rs) {o : Oper} {f : Operand → Value} {x z : Operand} (ho : o.op = .store t x z) (hv : v.val ρ σ = some (f x)) (hz : y.val ρ σ = some (f z)) :
    ∃ r ∈ rs, RS ρ W0 σ ((execOp f o).run P w) r := by
  unfold xStore at h
  split at h
  · rename_i b c st i
    simp only [Option.map_eq_some_iff] at h
    obtain ⟨s', hs', rfl⟩ := h
    simp only [V.val, Option.map_eq_some_iff] at hv
    obtain ⟨a, ha, hfx⟩ := hv
    obtain ⟨w', h1, h2⟩ := storeV_ok g hs' ha hz
    refine oneR (RS.nowSkip (w' := w') ?_ h2)
    simp [execOp, ho, ← hfx, Instr.storeAt, Instr.sureAddr, h1]
  · cases h
def xNil (v : V) (s : S) : Option (List R) := match v with
  | .ptr .. => some [.val v s]
  | .fn .. => some [.val v s]
  | .nilp => some [.bad s]
  | _ => none
theorem xNil_ok {s : S} {w : World} (g : Gam ρ W0 σ s w) {v : V} {rs : List R} (h : xNil v s = some rs) {o : Oper} {f : Operand → Value} {x : Operand} (ho : o.op = .nilCheck x) (hv : v.val ρ σ = some (f x)) :
    ∃ r ∈ rs, RS ρ W0 σ ((execOp f o).run P w) r := by
  unfold xNil at h
  split at h
  · cases h
    refine oneR (RS.now (w' := w) (x := f x) ?_ hv g)
    simp only [V.val, Option.map_eq_some_iff] at hv
    obtain ⟨a, ha, hfx⟩ := hv
    simp [execOp, ho, ← hfx]
  · cases h
    refine oneR (RS.now (w' := w) (x := f x) ?_ hv g)
    simp only [V.val, Option.map_eq_some_iff] at hv
    obtain ⟨a, ha, hfx⟩ := hv
    simp [execOp, ho, ← hfx]
  · cases h
    exact oneR g.pc
  · cases h
def xFieldAddr (P : Program) (t : TypeId) (v : V) (k : Nat) (s : S) : Option (List R) := match v, P.underlying t with
  | .ptr b c st i, some (.struct fields) => match fields[k]? with
    | some fd => match P.info? fd.type with
      | some inf => if inf.size = 0 then none else some [.val (.ptr b (c + fd.offset) st i) s]
      | none => none
    | none => none
  | _, _ => none
theorem xFieldAddr_ok {s : S} {w : World} (g : Gam ρ W0 σ s w) {t : TypeId} {v : V} {k : Nat} {rs : List R} (h : xFieldAddr P t v k s = some rs) {o : Oper} {f : Operand → Value} {x : Operand} (ho : o.op = .fieldAddr t x k) (hv : v.val ρ σ = some (f x)) :
    ∃ r ∈ rs, RS ρ W0 σ ((execOp f o).run P w) r := by
  unfold xFieldAddr at h
  split at h
  · rename_i b c st i fields hu
    split at h
    · rename_i fd hfd
      split at h
      · rename_i inf hi
        split at h
        · cases h
        · rename_i hsz
          cases h
          simp only [V.val, Option.map_eq_some_iff] at hv
          obtain ⟨a, ha, hfx⟩ := hv
          refine oneR (RS.now (w' := w) (x := .pointer (some (a.add fd.offset))) ?_ (by simp [V.val, addr_add ha]) g)
          simp [execOp, ho, ← hfx, Instr.fieldAt, run_underlying hu, hfd, Instr.sureAddr, fieldPlace, run_sizeOf' hi, hsz]
      · cases h
    · cases h
  · cases h

/-! ### Parts of a value -/
theorem run_part' {t : TypeId} {inf : TypeInfo} {d : TypeDesc} (hi : P.info? t = some inf) (hd : P.underlying t = some d) {cs : List Value} {q : Nat} {r : List V} (hq : isAggD d = true ∨ inf.size = 1) (hlen : q + inf.size ≤ cs.length) (hr : cellsL ρ σ r = some ((cs.drop q).take inf.size)) {x : V}
    (hx : (if isAggD d = true then some (.agg r) else match r with
      | [x] => if x.wide = true then none else some x
      | _ => none) = some x) (w : World) : ∃ v, x.val ρ σ = some v ∧ (part t cs.toArray q).run P w = .ok v w := by
  split at hx
  · rename_i hagg
    cases hx
    refine ⟨.agg (cs.toArray.extract q (q + inf.size)), ?_, ?_⟩
    · simp only [V.val, hr, Option.map_some]
      congr 2
      apply Array.ext'
      simp [List.extract_eq_take_drop]
    · unfold part
      simp only [Sem.run_bind, run_isAgg' hd, Result.andThen_ok, hagg, if_true, run_sizeOf' hi]
      rfl
  · rename_i hagg
    split at hx
    · rename_i y
      split at hx
      · cases hx
      · rename_i hw
        cases hx
        obtain ⟨p, p', e1, e2, e3⟩ := cellsL_cons hr
        rw [V.cells_one _ _ _ (by simpa using hw)] at e1
        simp only [Option.map_eq_some_iff] at e1
        obtain ⟨v, hv, rfl⟩ := e1
        refine ⟨v, hv, ?_⟩
        have hsz : inf.size = 1 := hq.resolve_left hagg
        have h0 : cs[q]? = some v := by
          have h3 := congrArg (·[0]?) e3
          simp only [List.getElem?_take, List.getElem?_drop, hsz, Nat.add_zero] at h3
          simpa using h3
        unfold part
        simp only [Sem.run_bind, run_isAgg' hd, Result.andThen_ok, hagg]
        simp [h0]
    · cases hx
def partV (P : Program) (t : TypeId) (take : Nat → Option (List V)) : Option V := match P.info? t, P.underlying t with
  | some inf, some d => if isAggD d = true ∨ inf.size = 1 then match take inf.size with
      | some r => if isAggD d = true then some (.agg r) else match r with
        | [x] => if x.wide = true then none else some x
        | _ => none
      | none => none
    else none
  | _, _ => none
theorem partV_ok {t : TypeId} {take : Nat → Option (List V)} {x : V} (h : partV P t take = some x) {cs : List Value} {q : Nat} (w : World)
    (ht : ∀ n r, take n = some r → (n = 0 ∨ q + n ≤ cs.length) ∧ cellsL ρ σ r = some ((cs.drop q).take n)) (hq : q ≤ cs.length) : ∃ v, x.val ρ σ = some v ∧ (part t cs.toArray q).run P w = .ok v w := by
  unfold partV at h
  split at h
  · rename_i inf d hi hd
    split at h
    · rename_i hcond
      split at h
      · rename_i r hr
        obtain ⟨h1, h2⟩ := ht _ _ hr
        exact run_part' hi hd hcond (by omega) h2 h w
      · cases h
    · cases h
  · cases h
def xField (P : Program) (t : TypeId) (v : V) (k : Nat) (s : S) : Option (List R) := match v, P.underlying t with
  | .agg l, some (.struct fields) => match fields[k]? with
    | some fd => match ncL l with
      | some n => if fd.offset ≤ n then (partV P fd.type (takeC s.pc l fd.offset)).map fun x => [.val x s] else none
      | none => none
    | none => none
  | _, _ => none
theorem xField_ok {s : S} {w : World} (g : Gam ρ W0 σ s w) {t : TypeId} {v : V} {k : Nat} {rs : List R} (h : xField P t v k s = some rs) {o : Oper} {f : Operand → Value} {x : Operand} (ho : o.op = .field t x k) (hv : v.val ρ σ = some (f x)) :
    ∃ r ∈ rs, RS ρ W0 σ ((execOp f o).run P w) r := by
  unfold xField at h
  split at h
  · rename_i l fields hu
    split at h
    · rename_i fd hfd
      split at h
      · rename_i n hn
        split at h
        · rename_i hle
          simp only [Option.map_eq_some_iff] at h
          obtain ⟨y, hy, rfl⟩ := h
          simp only [V.val, Option.map_eq_some_iff] at hv
          obtain ⟨cs, hcs, hfx⟩ := hv
          have hlen := ncL_cells ρ σ _ _ _ hn hcs
          obtain ⟨u, h1, h2⟩ := partV_ok hy (cs := cs) (q := fd.offset) w (fun n r hr => takeC_ok g.pc _ _ _ _ _ hr hcs) (by omega)
          refine oneR (RS.now (w' := w) ?_ h1 g)
          simp [execOp, ho, ← hfx, Instr.field, run_underlying hu, hfd, asAgg, h2]
        · cases h
      · cases h
    · cases h
  · cases h
end
end Go.SX
