/- A symbolic executor, part J: more operations. -/
import Derived.Test.YtfnekjeicdhihaaSxI
namespace Go.SX

section
variable {ρ : Env} {W0 : World} {σ : Sig} {P : Program}

def xUn (op : UnOp) (v : V) (s : S) : Option (List R) := match op, v with
  | .not, .bool a => some [.val (.bool (mkU .not a)) s]
  | .neg, .int k a => some [.val (.int k (mkU (.wrap k) (mkB .sub (.c 0) a))) s]
  | _, _ => none
theorem xUn_ok {s : S} {w : World} (g : Gam ρ W0 σ s w) {op : UnOp} {v : V} {rs : List R} (h : xUn op v s = some rs) {o : Oper} {f : Operand → Value} {t : TypeId} {x : Operand} (ho : o.op = .unOp op t x) (hv : v.val ρ σ = some (f x)) :
    ∃ r ∈ rs, RS ρ W0 σ ((execOp f o).run P w) r := by
  unfold xUn at h
  split at h
  · cases h
    simp only [V.val, Option.some.injEq] at hv
    refine oneR (RS.now (w' := w) ?_ rfl g)
    simp only [execOp, ho, ← hv, Op.unary, mkU_n]
    rw [not_ne, ne_dec]
    simp
  · cases h
    simp only [V.val, Option.some.injEq] at hv
    refine oneR (RS.now (w' := w) ?_ rfl g)
    simp [execOp, ho, ← hv, Op.unary, Op.intArith, mkU_n, mkB_n, U.den, O.den, E.n_c]
  · cases h

def xConv (P : Program) (src dst : TypeId) (v : V) (s : S) : Option (List R) := match v, P.underlying src, P.underlying dst with
  | .int _ a, some _, some (.int k) => some [.val (.int k (mkU (.wrap k) a)) s]
  | .str b, some .string, some .string => some [.val (.str b) s]
  | _, _, _ => none
theorem xConv_ok {s : S} {w : World} (g : Gam ρ W0 σ s w) {src dst : TypeId} {v : V} {rs : List R} (h : xConv P src dst v s = some rs) {o : Oper} {f : Operand → Value} {x : Operand} (ho : o.op = .convert src dst x) (hv : v.val ρ σ = some (f x)) :
    ∃ r ∈ rs, RS ρ W0 σ ((execOp f o).run P w) r := by
  unfold xConv at h
  split at h
  · rename_i d k h1 h2
    cases h
    simp only [V.val, Option.some.injEq] at hv
    refine oneR (RS.now (w' := w) ?_ rfl g)
    simp only [execOp, ho, ← hv, mkU_n, U.den]
    simp [convert, run_underlying h1, run_underlying h2, Conv.intToInt]
  · rename_i h1 h2
    cases h
    simp only [V.val, Option.some.injEq] at hv
    refine oneR (RS.now (w' := w) ?_ rfl g)
    simp only [execOp, ho, ← hv]
    simp [convert, run_underlying h1, run_underlying h2]
  · cases h

/-! ### Places -/
def xIndexAddr (P : Program) (t : TypeId) (v iv : V) (s : S) : Option (List R) := match iv with
  | .int _ e => match v, P.underlying t with
    | .ptr b c st i, some (.array len el) => match P.info? el with
      | some inf => guard s (mkB .le (.c 0) e) fun s1 => guard s1 (mkB .lt e (.c len)) fun s2 => match e with
        | .c n => some [.val (.ptr b (c + n.toNat * inf.size) st i) s2]
        | e => if st = 0 ∧ inf.size ≠ 0 then some [.val (.ptr b c inf.size e) s2] else none
      | none => none
    | .slice b c st i len _, some (.slice el) => match P.info? el with
      | some inf => guard s (mkB .le (.c 0) e) fun s1 => guard s1 (mkB .lt e len) fun s2 => match e with
        | .c n => some [.val (.ptr b (c + n.toNat * inf.size) st i) s2]
        | e => if inf.size = 0 then none else if st = 0 then some [.val (.ptr b c inf.size e) s2] else if st = inf.size then some [.val (.ptr b c inf.size (mkB .add i e)) s2] else none
      | none => none
    | .nils, some (.slice _) => some [.bad s]
    | .ms _ b len, some (.slice el) => match P.info? el with
      | some inf => guard s (mkB .le (.c 0) e) fun s1 => guard s1 (mkB .lt e len) fun s2 => if inf.size = 0 then none else some [.val (.ptr b 0 inf.size e) s2]
      | none => none
    | _, _ => none
  | _ => none

theorem addr_index {b c : Nat} {i : E} {a : Addr} (h : addrOf ρ σ b c 0 i = some a) {e : E} (he : 0 ≤ e.n ρ) {sz : Nat} (hs : sz ≠ 0) : addrOf ρ σ b c sz e = some (a.add ((e.n ρ).toNat * sz)) := by
  unfold addrOf at *
  split at h
  · simp only [if_true, Option.some.injEq] at h
    subst h
    simp only [hs, if_false, natOf, if_pos he, Option.map_some, add_mk]
    congr 2
    rw [Nat.mul_comm, Nat.add_assoc]
  · cases h
theorem addr_index2 {b c sz : Nat} {i : E} {a : Addr} (hs : sz ≠ 0) (h : addrOf ρ σ b c sz i = some a) {e : E} (he : 0 ≤ e.n ρ) : addrOf ρ σ b c sz (mkB .add i e) = some (a.add ((e.n ρ).toNat * sz)) := by
  unfold addrOf at *
  split at h
  · simp only [hs, if_false, natOf] at h ⊢
    split at h
    · rename_i h0
      simp only [Option.map_some, Option.some.injEq] at h
      subst h
      rw [mkB_n, show O.den .add (i.n ρ) (e.n ρ) = i.n ρ + e.n ρ from rfl, if_pos (by omega)]
      simp only [Option.map_some, add_mk]
      congr 2
      rw [show (i.n ρ + e.n ρ).toNat = (i.n ρ).toNat + (e.n ρ).toNat by omega, Nat.mul_add, Nat.mul_comm _ sz]
      omega
    · cases h
  · cases h

theorem ms_some {o b : Nat} {len : E} {v : Value} (h : msOf ρ σ o b len = some v) (h0 : 0 < len.n ρ) : ∃ k q n c, σ[b]? = some (k, q) ∧ v = .slice (some ⟨k, q, none⟩) n c ∧ (n : Int) = len.n ρ := by
  unfold msOf at h
  split at h
  · split at h
    · omega
    · cases h
  · rename_i a n c k q h1 h2
    split at h
    · rename_i h3
      cases h
      obtain ⟨rfl, h4⟩ := h3
      exact ⟨k, q, n, c, h2, rfl, h4⟩
    · cases h
  · cases h
theorem ms_len {o b : Nat} {len : E} {v : Value} (h : msOf ρ σ o b len = some v) : ∃ a n c, v = .slice a n c ∧ (n : Int) = len.n ρ := by
  unfold msOf at h
  split at h
  · split at h
    · rename_i h0; cases h; exact ⟨none, 0, 0, rfl, by rw [h0]; rfl⟩
    · cases h
  · split at h
    · rename_i h3; cases h; exact ⟨_, _, _, rfl, h3.2⟩
    · cases h
  · cases h
theorem xIndexAddr_ok {s : S} {w : World} (g : Gam ρ W0 σ s w) {t : TypeId} {v iv : V} {rs : List R} (h : xIndexAddr P t v iv s = some rs) {o : Oper} {f : Operand → Value} {x y : Operand} (ho : o.op = .indexAddr t x y) (hv : v.val ρ σ = some (f x)) (hi : iv.val ρ σ = some (f y)) :
    ∃ r ∈ rs, RS ρ W0 σ ((execOp f o).run P w) r := by
  unfold xIndexAddr at h
  split at h
  · rename_i k e
    simp only [V.val, Option.some.injEq] at hi
    split at h
    · rename_i b c st i len el hu
      split at h
      · rename_i inf hinf
        simp only [V.val, Option.map_eq_some_iff] at hv
        obtain ⟨a, ha, hfx⟩ := hv
        refine guard_ok g h fun s1 rs1 g1 hb1 h => ?_
        refine guard_ok g1 h fun s2 rs2 g2 hb2 h => ?_
        rw [mkB_n, E.n_c] at hb1
        rw [mkB_n, E.n_c] at hb2
        have hb1 := le_of hb1
        have hb2 := lt_of hb2
        have hrun : (execOp f o).run P w = .ok (.value (.pointer (some (a.add ((e.n ρ).toNat * inf.size))))) w := by
          simp [execOp, ho, ← hfx, ← hi, Instr.indexAt, asIntOf, run_underlying hu, Instr.sureAddr, hb1, hb2, run_sizeOf' hinf]
        split at h
        · rename_i n
          cases h
          rw [E.n_c] at hrun
          exact oneR (RS.now (w' := w) hrun (by simp [V.val, addr_add ha]) g2)
        · split at h
          · rename_i hc
            cases h
            obtain ⟨rfl, hs⟩ := hc
            exact oneR (RS.now (w' := w) hrun (by simp [V.val, addr_index ha hb1 hs]) g2)
          · cases h
      · cases h
    · rename_i b c st i len m el hu
      split at h
      · rename_i inf hinf
        simp only [V.val] at hv
        split at hv
        · rename_i a n m' ha hn hm
          simp only [Option.some.injEq] at hv
          refine guard_ok g h fun s1 rs1 g1 hb1 h => ?_
          refine guard_ok g1 h fun s2 rs2 g2 hb2 h => ?_
          rw [mkB_n, E.n_c] at hb1
          rw [mkB_n] at hb2
          have hb1 := le_of hb1
          have hb2 := lt_of hb2
          have hn' : (n : Int) = len.n ρ := by
            unfold natOf at hn
            split at hn
            · cases hn; omega
            · cases hn
          rw [← hn'] at hb2
          have hrun : (execOp f o).run P w = .ok (.value (.pointer (some (a.add ((e.n ρ).toNat * inf.size))))) w := by
            simp [execOp, ho, ← hv, ← hi, Instr.indexAt, asIntOf, run_underlying hu, hb1, hb2, run_sizeOf' hinf]
          split at h
          · rename_i n
            cases h
            rw [E.n_c] at hrun
            exact oneR (RS.now (w' := w) hrun (by simp [V.val, addr_add ha]) g2)
          · split at h
            · cases h
            · rename_i hs
              split at h
              · rename_i hst
                cases h
                subst hst
                exact oneR (RS.now (w' := w) hrun (by simp [V.val, addr_index ha hb1 hs]) g2)
              · split at h
                · rename_i hst
                  cases h
                  subst hst
                  exact oneR (RS.now (w' := w) hrun (by simp [V.val, addr_index2 hs ha hb1]) g2)
                · cases h
        · cases hv
      · cases h
    · cases h
      exact oneR g.pc
    · rename_i q b len el hu
      split at h
      · rename_i inf hinf
        simp only [V.val] at hv
        refine guard_ok g h fun s1 rs1 g1 hb1 h => ?_
        refine guard_ok g1 h fun s2 rs2 g2 hb2 h => ?_
        rw [mkB_n, E.n_c] at hb1
        rw [mkB_n] at hb2
        have hb1 := le_of hb1
        have hb2 := lt_of hb2
        split at h
        · cases h
        · rename_i hs
          cases h
          obtain ⟨k0, o0, n, c, h1, h2, h3⟩ := ms_some hv (by omega)
          rw [← h3] at hb2
          have hrun : (execOp f o).run P w = .ok (.value (.pointer (some ((⟨k0, o0, none⟩ : Addr).add ((e.n ρ).toNat * inf.size))))) w := by
            simp [execOp, ho, h2, ← hi, Instr.indexAt, asIntOf, run_underlying hu, hb1, hb2, run_sizeOf' hinf]
          have ha : addrOf ρ σ b 0 0 (.c 0) = some ⟨k0, o0, none⟩ := by simp [addrOf, h1]
          exact oneR (RS.now (w' := w) hrun (by simp [V.val, addr_index ha hb1 hs]) g2)
      · cases h
    · cases h
  · cases h

def xIndex (P : Program) (t : TypeId) (v iv : V) (s : S) : Option (List R) := match iv, v, P.underlying t with
  | .int _ e, .agg l, some (.array len el) => match P.info? el, ncL l with
    | some inf, some n => if n = len * inf.size then guard s (mkB .le (.c 0) e) fun s1 => guard s1 (mkB .lt e (.c len)) fun s2 => match e with
        | .c m => (partV P el (takeC s2.pc l (m.toNat * inf.size))).map fun x => [.val x s2]
        | e => (partV P el (takeS s2.pc inf.size e l 0)).map fun x => [.val x s2]
      else none
    | _, _ => none
  | _, _, _ => none
theorem xIndex_ok {s : S} {w : World} (g : Gam ρ W0 σ s w) {t : TypeId} {v iv : V} {rs : List R} (h : xIndex P t v iv s = some rs) {o : Oper} {f : Operand → Value} {x y : Operand} (ho : o.op = .index t x y) (hv : v.val ρ σ = some (f x)) (hi : iv.val ρ σ = some (f y)) :
    ∃ r ∈ rs, RS ρ W0 σ ((execOp f o).run P w) r := by
  unfold xIndex at h
  split at h
  · rename_i k e l len el hu
    split at h
    · rename_i inf n hinf hn
      split at h
      · rename_i hlen
        simp only [V.val, Option.some.injEq, Option.map_eq_some_iff] at hi hv
        obtain ⟨cs, hcs, hfx⟩ := hv
        have hcl := ncL_cells ρ σ _ _ _ hn hcs
        refine guard_ok g h fun s1 rs1 g1 hb1 h => ?_
        refine guard_ok g1 h fun s2 rs2 g2 hb2 h => ?_
        rw [mkB_n, E.n_c] at hb1
        rw [mkB_n, E.n_c] at hb2
        have hb1 := le_of hb1
        have hb2 := lt_of hb2
        have hq : (e.n ρ).toNat * inf.size ≤ cs.length := by
          rw [hcl, hlen]
          exact Nat.mul_le_mul_right _ (by omega)
        have hrun : ∀ u, (part el cs.toArray ((e.n ρ).toNat * inf.size)).run P w = .ok u w → (execOp f o).run P w = .ok (.value u) w := by
          intro u hu'
          simp [execOp, ho, ← hfx, ← hi, Instr.index, asIntOf, run_underlying hu, hb1, hb2, run_sizeOf' hinf, hu']
        split at h
        · simp only [Option.map_eq_some_iff] at h
          obtain ⟨z, hz, rfl⟩ := h
          rw [E.n_c] at hrun hq
          obtain ⟨u, h1, h2⟩ := partV_ok hz (cs := cs) w (fun n r hr => takeC_ok g2.pc _ _ _ _ _ hr hcs) hq
          exact oneR (RS.now (w' := w) (hrun u h2) h1 g2)
        · simp only [Option.map_eq_some_iff] at h
          obtain ⟨z, hz, rfl⟩ := h
          obtain ⟨u, h1, h2⟩ := partV_ok hz (cs := cs) (q := (e.n ρ).toNat * inf.size) w (fun n r hr => by
            obtain ⟨_, h4, h5⟩ := takeS_ok g2.pc _ _ _ _ _ _ _ hr hcs
            rw [Nat.zero_add, Nat.mul_comm] at h4 h5
            exact ⟨.inr h4, h5⟩) hq
          exact oneR (RS.now (w' := w) (hrun u h2) h1 g2)
      · cases h
    · cases h
  · cases h

/-! ### Others -/
def xIface (P : Program) (t : TypeId) (v : V) (s : S) : Option (List R) := if P.concrete t = true ∧ notTup v = true then some [.val (.iface t v) s] else none
theorem xIface_ok {s : S} {w : World} (g : Gam ρ W0 σ s w) {t : TypeId} {v : V} {rs : List R} (h : xIface P t v s = some rs) {o : Oper} {f : Operand → Value} {x : Operand} (ho : o.op = .makeInterface t x) (hv : v.val ρ σ = some (f x)) :
    ∃ r ∈ rs, RS ρ W0 σ ((execOp f o).run P w) r := by
  unfold xIface at h
  split at h
  · rename_i hc
    cases h
    refine oneR (RS.now (w' := w) (x := .iface t (f x)) ?_ (by simp only [V.val, hv, Option.map_some]) g)
    simp [execOp, ho, run_makeInterface w t (f x) hc.1]
  · cases h
def evL (e : Operand → Option V) (xs : List Operand) : Option (List V) := xs.mapM e
theorem evL_ok {e : Operand → Option V} {f : Operand → Value} (he : EV ρ σ e f) : ∀ (xs : List Operand) (vs : List V), evL e xs = some vs → valL ρ σ vs = some (xs.map f)
  | [], vs, h => by
    simp only [evL, List.mapM_nil, Option.pure_def, Option.some.injEq] at h
    subst h; rfl
  | x :: xs, vs, h => by
    simp only [evL, List.mapM_cons, Option.bind_eq_bind, Option.pure_def] at h
    cases hx : e x with
    | none => simp [hx] at h
    | some v =>
      cases hr : xs.mapM e with
      | none => simp [hx, hr] at h
      | some rest =>
        simp only [hx, hr, Option.bind_some, Option.some.injEq] at h
        subst h
        simp only [valL, he _ _ hx, evL_ok he xs rest hr, List.map_cons]
def xFunc (e : Operand → Option V) (fn : Fn) (first captured : Array Operand) (s : S) : Option (List R) := match fn with
  | .func f => if first.isEmpty = true then (evL e captured.toList).map fun vs => [.val (.fn f vs) s] else none
  | _ => none
theorem xFunc_ok {s : S} {w : World} (g : Gam ρ W0 σ s w) {e : Operand → Option V} {fn : Fn} {first captured : Array Operand} {rs : List R} {f : Operand → Value} (he : EV ρ σ e f) (h : xFunc e fn first captured s = some rs) {o : Oper} (ho : o.op = .makeFunc fn first captured) :
    ∃ r ∈ rs, RS ρ W0 σ ((execOp f o).run P w) r := by
  unfold xFunc at h
  split at h
  · rename_i k
    split at h
    · rename_i hf
      simp only [Option.map_eq_some_iff] at h
      obtain ⟨vs, hvs, rfl⟩ := h
      have hfe : first = #[] := by simpa using hf
      subst hfe
      refine oneR (RS.now (w' := w) (x := .func (.func k) #[] (captured.map f)) ?_ ?_ g)
      · simp [execOp, ho, Instr.makeFunc]
      · simp only [V.val, evL_ok he _ _ hvs, Option.map_some]
        congr 2
        apply Array.ext'
        simp
    · cases h
  · cases h
theorem valL_get : ∀ (l : List V) (vs : List Value) (i : Nat) (v : V), valL ρ σ l = some vs → l[i]? = some v → ∃ x, vs[i]? = some x ∧ v.val ρ σ = some x
  | [], vs, i, v, h, hi => by simp at hi
  | y :: ys, vs, i, v, h, hi => by
    simp only [valL] at h
    split at h
    · rename_i a b h1 h2
      cases h
      cases i with
      | zero => simp only [List.getElem?_cons_zero, Option.some.injEq] at hi; subst hi; exact ⟨a, by simp, h1⟩
      | succ i =>
        obtain ⟨x, h3, h4⟩ := valL_get ys b i v h2 (by simpa using hi)
        exact ⟨x, by simpa using h3, h4⟩
    · cases h
def xExtract (v : V) (i : Nat) (s : S) : Option (List R) := match v with
  | .tup l => (l[i]?).map fun x => [.val x s]
  | _ => none
theorem xExtract_ok {s : S} {w : World} (g : Gam ρ W0 σ s w) {v : V} {i : Nat} {rs : List R} (h : xExtract v i s = some rs) {o : Oper} {f : Operand → Value} {x : Operand} (ho : o.op = .extract x i) (hv : v.val ρ σ = some (f x)) :
    ∃ r ∈ rs, RS ρ W0 σ ((execOp f o).run P w) r := by
  unfold xExtract at h
  split at h
  · rename_i l
    simp only [Option.map_eq_some_iff] at h
    obtain ⟨y, hy, rfl⟩ := h
    simp only [V.val, Option.map_eq_some_iff] at hv
    obtain ⟨vs, hvs, hfx⟩ := hv
    obtain ⟨u, h1, h2⟩ := valL_get _ _ _ _ hvs hy
    refine oneR (RS.now (w' := w) ?_ h2 g)
    simp [execOp, ho, ← hfx, Instr.extract, h1]
  · cases h
def xPanic (v : V) (s : S) : Option (List R) := match v with
  | .iface t x => some [.pan (.iface t x) s]
  | _ => none
theorem xPanic_ok {s : S} {w : World} (g : Gam ρ W0 σ s w) {v : V} {rs : List R} (h : xPanic v s = some rs) {o : Oper} {f : Operand → Value} {x : Operand} (ho : o.op = .panic x) (hv : v.val ρ σ = some (f x)) :
    ∃ r ∈ rs, RS ρ W0 σ ((execOp f o).run P w) r := by
  unfold xPanic at h
  split at h
  · cases h
    refine oneR ⟨f x, w, [], ?_, by rw [List.append_nil]; exact hv, by rw [List.append_nil]; exact g⟩
    simp only [V.val, Option.map_eq_some_iff] at hv
    obtain ⟨u, hu, hfx⟩ := hv
    simp [execOp, ho, ← hfx, Instr.panic]
  · cases h
def isIfaceT : Option TypeDesc → Bool
  | some (.interface _) => true
  | _ => false
def xAssert (P : Program) (v : V) (asserted : TypeId) (ok : Bool) (s : S) : Option (List R) := match v with
  | .iface t x => if t = asserted ∧ P.concrete asserted = true then some [.val (if ok = true then .tup [x, .bool (.c 1)] else x) s] else none
  | _ => none
end
end Go.SX
