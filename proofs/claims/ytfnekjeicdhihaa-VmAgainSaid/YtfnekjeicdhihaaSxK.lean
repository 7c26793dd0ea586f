/- A symbolic executor, part K: an operation that calls no function. -/
import Derived.Test.YtfnekjeicdhihaaSxJ2
namespace Go.SX

section
variable {ρ : Env} {W0 : World} {σ : Sig} {P : Program}

theorem xAssert_ok {s : S} {w : World} (g : Gam ρ W0 σ s w) {v : V} {t0 asserted : TypeId} {ok : Bool} {rs : List R} (h : xAssert P v asserted ok s = some rs) {o : Oper} {f : Operand → Value} {x : Operand} (ho : o.op = .typeAssert x t0 asserted ok) (hv : v.val ρ σ = some (f x)) :
    ∃ r ∈ rs, RS ρ W0 σ ((execOp f o).run P w) r := by
  unfold xAssert at h
  split at h
  · rename_i t y
    simp only [V.val, Option.map_eq_some_iff] at hv
    obtain ⟨u, hu1, hfx⟩ := hv
    split at h
    · rename_i hc
      obtain ⟨rfl, hcon⟩ := hc
      cases h
      refine oneR (RS.now (w' := w) (x := if ok = true then .tuple #[u, .bool true] else u) ?_ ?_ g)
      · unfold Program.concrete at hcon
        cases hd : P.underlying t with
        | none => simp [hd] at hcon
        | some d =>
          simp only [execOp, ho, ← hfx, Instr.typeAssert, Sem.run_bind, run_underlying hd, Result.andThen_ok]
          cases d <;> first | (simp [hd] at hcon; done) | simp
      · cases ok
        · simpa using hu1
        · simp [V.val, valL, hu1, E.n_c]
    · cases h
  · cases h

/-! ### len, cap, min, max -/
def xLen (P : Program) (t : TypeId) (v : V) (s : S) : Option (List R) := match P.underlying t, v with
  | some (.slice _), .slice _ _ _ _ len _ => some [.val (.int .i64 len) s]
  | some (.slice _), .nils => some [.val (.int .i64 (.c 0)) s]
  | some (.slice _), .ms _ _ len => some [.val (.int .i64 len) s]
  | some (.array n _), _ => some [.val (.int .i64 (.c n)) s]
  | some .string, .str b => some [.val (.int .i64 (.c b.size)) s]
  | _, _ => none
theorem xLen_ok {s : S} {w : World} (g : Gam ρ W0 σ s w) {t : TypeId} {v : V} {rs : List R} (h : xLen P t v s = some rs) {o : Oper} {f : Operand → Value} {x : Operand} (ho : o.op = .call { callee := .builtin .len, args := #[x], argTypes := #[t] }) (hv : v.val ρ σ = some (f x)) :
    ∃ r ∈ rs, RS ρ W0 σ ((execOp f o).run P w) r := by
  unfold xLen at h
  split at h
  · rename_i el b c st i len m hu
    cases h
    simp only [V.val] at hv
    split at hv
    · rename_i a n m' ha hn hm
      simp only [Option.some.injEq] at hv
      have hn' : (n : Int) = len.n ρ := by
        unfold natOf at hn
        split at hn
        · cases hn; omega
        · cases hn
      refine oneR (RS.now (w' := w) (run_builtin ho ?_) (x := .int .i64 n) (by simp only [V.val, ← hn']) g)
      simp [builtin, Builtin.len_, ← hv, run_underlying hu, goInt]
    · cases hv
  · rename_i el hu
    cases h
    simp only [V.val, Option.some.injEq] at hv
    refine oneR (RS.now (w' := w) (x := .int .i64 0) (run_builtin ho ?_) rfl g)
    simp [builtin, Builtin.len_, ← hv, run_underlying hu, goInt]
  · rename_i el q b len hu
    cases h
    simp only [V.val] at hv
    obtain ⟨a, n, c, h1, h2⟩ := ms_len hv
    refine oneR (RS.now (w' := w) (run_builtin ho ?_) (x := .int .i64 n) (by simp only [V.val, h2]) g)
    simp [builtin, Builtin.len_, h1, run_underlying hu, goInt]
  · rename_i n el hu
    cases h
    refine oneR (RS.now (w' := w) (x := .int .i64 n) (run_builtin ho ?_) rfl g)
    simp [builtin, Builtin.len_, run_underlying hu, goInt]
  · rename_i b hu
    cases h
    simp only [V.val, Option.some.injEq] at hv
    refine oneR (RS.now (w' := w) (x := .int .i64 b.size) (run_builtin ho ?_) rfl g)
    simp [builtin, Builtin.len_, ← hv, run_underlying hu, goInt]
  · cases h
def xMM (mx : Bool) (x y : V) (s : S) : Option (List R) := match x, y with
  | .int k a, .int _ b => some [.val (.int k (mkB (if mx = true then .mx else .mn) a b)) s]
  | _, _ => none
theorem xMM_ok {s : S} {w : World} (g : Gam ρ W0 σ s w) {mx : Bool} {u v : V} {rs : List R} (h : xMM mx u v s = some rs) {o : Oper} {f : Operand → Value} {x y : Operand} {ts : Array TypeId} (ho : o.op = .call { callee := .builtin (if mx = true then .max else .min), args := #[x, y], argTypes := ts })
    (hx : u.val ρ σ = some (f x)) (hy : v.val ρ σ = some (f y)) : ∃ r ∈ rs, RS ρ W0 σ ((execOp f o).run P w) r := by
  unfold xMM at h
  split at h
  · rename_i k a k' b
    cases h
    simp only [V.val, Option.some.injEq] at hx hy
    refine oneR (RS.now (w' := w) (run_builtin ho ?_) rfl g)
    cases mx <;> simp [builtin, Builtin.max_, Builtin.min_, Builtin.max2, Builtin.min2, ← hx, ← hy, mkB_n, O.den]
  · cases h

/-! ### An operation -/
def opX (P : Program) (e : Operand → Option V) (o : Oper) (s : S) : Option (List R) := match o.op with
  | .move x | .assign x => (e x).map fun v => [.val v s]
  | .pick c a b => match e c with
    | some (.bool x) => fork s x fun s' t => (e (if t = true then a else b)).map fun v => [.val v s']
    | _ => none
  | .alloc t => xAlloc P t s
  | .box t x => (e x).bind fun v => xBox t v s
  | .build t parts => xBuild P e t parts s
  | .load t a => (e a).bind fun v => xLoad P t v s
  | .store t a x => (e a).bind fun v => (e x).bind fun y => xStore P t v y s
  | .nilCheck x => (e x).bind fun v => xNil v s
  | .binOp op t x y _ => (e x).bind fun u => (e y).bind fun v => xBin P op t (isC x) (isC y) u v s
  | .unOp op _ x => (e x).bind fun v => xUn op v s
  | .convert a b x => (e x).bind fun v => match xConv P a b v s with
    | some rs => some rs
    | none => xStr P a b v s
  | .makeInterface t x => (e x).bind fun v => xIface P t v s
  | .makeFunc fn first captured => xFunc e fn first captured s
  | .fieldAddr t x k => (e x).bind fun v => xFieldAddr P t v k s
  | .field t x k => (e x).bind fun v => xField P t v k s
  | .indexAddr t x y => (e x).bind fun u => (e y).bind fun v => xIndexAddr P t u v s
  | .index t x y => (e x).bind fun u => (e y).bind fun v => xIndex P t u v s
  | .extract x i => (e x).bind fun v => xExtract v i s
  | .panic x => (e x).bind fun v => xPanic v s
  | .buildSlice t len parts => xBuildSlice P e t len parts s
  | .typeAssert x _ u ok => (e x).bind fun v => xAssert P v u ok s
  | .call { callee := .builtin .len, args := ⟨[x]⟩, argTypes := ⟨[t]⟩ } => (e x).bind fun v => xLen P t v s
  | .call { callee := .builtin .append, args := ⟨[x, y]⟩, argTypes := ⟨[t, u]⟩ } => (e x).bind fun v => (e y).bind fun z => xApp P t u v z s
  | .call { callee := .builtin .min, args := ⟨[x, y]⟩, .. } => (e x).bind fun u => (e y).bind fun v => xMM false u v s
  | .call { callee := .builtin .max, args := ⟨[x, y]⟩, .. } => (e x).bind fun u => (e y).bind fun v => xMM true u v s
  | _ => none
theorem opX_ok {s : S} {w : World} (g : Gam ρ W0 σ s w) {e : Operand → Option V} {f : Operand → Value} (he : EV ρ σ e f) {o : Oper} {rs : List R} (h : opX P e o s = some rs) : ∃ r ∈ rs, RS ρ W0 σ ((execOp f o).run P w) r := by
  unfold opX at h
  split at h
  all_goals first | (cases h; done) | skip
  case h_1 | h_2 =>
    rename_i x ho
    simp only [Option.map_eq_some_iff] at h
    obtain ⟨v, hv, rfl⟩ := h
    exact oneR (RS.now (w' := w) (by simp [execOp, ho]) (he _ _ hv) g)
  case h_3 =>
    rename_i c a b ho
    split at h
    · rename_i x hx
      have hc := he _ _ hx
      simp only [V.val, Option.some.injEq] at hc
      refine fork_ok g h fun s' t rs' g' hb h => ?_
      simp only [Option.map_eq_some_iff] at h
      obtain ⟨v, hv, rfl⟩ := h
      refine oneR (RS.now (w' := w) (x := f (if t = true then a else b)) ?_ (he _ _ hv) g')
      simp only [execOp, ho, ← hc]
      by_cases hx0 : x.n ρ = 0
      · have : t = false := by cases t <;> simp_all
        simp [hx0, this, asBool]
      · have : t = true := hb.2 hx0
        simp [hx0, this, asBool]
    · cases h
  case h_4 => rename_i t ho; exact xAlloc_ok g h ho
  case h_5 =>
    rename_i t x ho
    simp only [Option.bind_eq_some_iff] at h
    obtain ⟨v, hv, h⟩ := h
    exact xBox_ok g h ho (he _ _ hv)
  case h_6 => rename_i t parts ho; exact xBuild_ok g he h ho
  case h_7 =>
    rename_i t x ho
    simp only [Option.bind_eq_some_iff] at h
    obtain ⟨v, hv, h⟩ := h
    exact xLoad_ok g h ho (he _ _ hv)
  case h_8 =>
    rename_i t a x ho
    simp only [Option.bind_eq_some_iff] at h
    obtain ⟨v, hv, y, hy, h⟩ := h
    exact xStore_ok g h ho (he _ _ hv) (he _ _ hy)
  case h_9 =>
    rename_i x ho
    simp only [Option.bind_eq_some_iff] at h
    obtain ⟨v, hv, h⟩ := h
    exact xNil_ok g h ho (he _ _ hv)
  case h_10 =>
    rename_i op t x y t' ho
    simp only [Option.bind_eq_some_iff] at h
    obtain ⟨v, hv, y, hy, h⟩ := h
    exact xBin_ok g h ho (he _ _ hv) (he _ _ hy)
  case h_11 =>
    rename_i op t x ho
    simp only [Option.bind_eq_some_iff] at h
    obtain ⟨v, hv, h⟩ := h
    exact xUn_ok g h ho (he _ _ hv)
  case h_12 =>
    rename_i a b x ho
    simp only [Option.bind_eq_some_iff] at h
    obtain ⟨v, hv, h⟩ := h
    split at h
    · rename_i rs' hrs
      cases h
      exact xConv_ok g hrs ho (he _ _ hv)
    · exact xStr_ok g h ho (he _ _ hv)
  case h_13 =>
    rename_i t x ho
    simp only [Option.bind_eq_some_iff] at h
    obtain ⟨v, hv, h⟩ := h
    exact xIface_ok g h ho (he _ _ hv)
  case h_14 => rename_i fn first captured ho; exact xFunc_ok g he h ho
  case h_15 =>
    rename_i t x k ho
    simp only [Option.bind_eq_some_iff] at h
    obtain ⟨v, hv, h⟩ := h
    exact xFieldAddr_ok g h ho (he _ _ hv)
  case h_16 =>
    rename_i t x k ho
    simp only [Option.bind_eq_some_iff] at h
    obtain ⟨v, hv, h⟩ := h
    exact xField_ok g h ho (he _ _ hv)
  case h_17 =>
    rename_i t x y ho
    simp only [Option.bind_eq_some_iff] at h
    obtain ⟨v, hv, y, hy, h⟩ := h
    exact xIndexAddr_ok g h ho (he _ _ hv) (he _ _ hy)
  case h_18 =>
    rename_i t x y ho
    simp only [Option.bind_eq_some_iff] at h
    obtain ⟨v, hv, y, hy, h⟩ := h
    exact xIndex_ok g h ho (he _ _ hv) (he _ _ hy)
  case h_19 =>
    rename_i x i ho
    simp only [Option.bind_eq_some_iff] at h
    obtain ⟨v, hv, h⟩ := h
    exact xExtract_ok g h ho (he _ _ hv)
  case h_20 =>
    rename_i x ho
    simp only [Option.bind_eq_some_iff] at h
    obtain ⟨v, hv, h⟩ := h
    exact xPanic_ok g h ho (he _ _ hv)
  case h_21 => rename_i t len parts ho; exact xBuildSlice_ok g he h ho
  case h_22 =>
    rename_i x t u ok ho
    simp only [Option.bind_eq_some_iff] at h
    obtain ⟨v, hv, h⟩ := h
    exact xAssert_ok g h ho (he _ _ hv)
  case h_23 =>
    rename_i x t ho
    simp only [Option.bind_eq_some_iff] at h
    obtain ⟨v, hv, h⟩ := h
    exact xLen_ok g h ho (he _ _ hv)
  case h_24 =>
    rename_i x y t u ho
    simp only [Option.bind_eq_some_iff] at h
    obtain ⟨v, hv, y, hy, h⟩ := h
    exact xApp_ok g h ho (he _ _ hv) (he _ _ hy)
  case h_25 =>
    rename_i x y ts ho
    simp only [Option.bind_eq_some_iff] at h
    obtain ⟨v, hv, y, hy, h⟩ := h
    exact xMM_ok (mx := false) g h ho (he _ _ hv) (he _ _ hy)
  case h_26 =>
    rename_i x y ts ho
    simp only [Option.bind_eq_some_iff] at h
    obtain ⟨v, hv, y, hy, h⟩ := h
    exact xMM_ok (mx := true) g h ho (he _ _ hv) (he _ _ hy)
end
end Go.SX
