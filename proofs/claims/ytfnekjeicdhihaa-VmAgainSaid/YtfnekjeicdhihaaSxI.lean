/- A symbolic executor, part I: numbers, tests, places, function values. -/
import Derived.Test.YtfnekjeicdhihaaSxH2
namespace Go.SX

section
variable {ρ : Env} {W0 : World} {σ : Sig} {P : Program}

def bO (o : O) (a b : E) : V := .bool (mkB o a b)
/-- Two numbers of a kind. -/
def xInt (op : BinOp) (k : IntKind) (a b : E) (s : S) : Option (List R) := match op with
  | .add => some [.val (.int k (mkU (.wrap k) (mkB .add a b))) s]
  | .sub => some [.val (.int k (mkU (.wrap k) (mkB .sub a b))) s]
  | .mul => some [.val (.int k (mkU (.wrap k) (mkB .mul a b))) s]
  | .quo => guard s (mkU .not (mkB .eq b (.c 0))) fun s' => some [.val (.int k (mkU (.wrap k) (mkB .quo a b))) s']
  | .rem => guard s (mkU .not (mkB .eq b (.c 0))) fun s' => some [.val (.int k (mkB .rem a b)) s']
  | .and => some [.val (.int k (mkU (.wrap k) (mkB (.band k) a b))) s]
  | .or => some [.val (.int k (mkU (.wrap k) (mkB (.bor k) a b))) s]
  | .xor => some [.val (.int k (mkU (.wrap k) (mkB (.bxor k) a b))) s]
  | .eql => some [.val (bO .eq a b) s]
  | .neq => some [.val (.bool (mkU .not (mkB .eq a b))) s]
  | .lss => some [.val (bO .lt a b) s]
  | .leq => some [.val (bO .le a b) s]
  | .gtr => some [.val (bO .lt b a) s]
  | .geq => some [.val (bO .le b a) s]
  | _ => none
theorem ite_ne {c : Prop} [Decidable c] : ((if c then (1 : Int) else 0) != 0) = decide c := by split <;> simp [*]
theorem not_ne (x : Int) : (U.not.den x != 0) = decide (x = 0) := by simp only [U.den]; exact ite_ne
theorem xInt_ok {s : S} {w : World} (g : Gam ρ W0 σ s w) {op : BinOp} {k : IntKind} {a b : E} {rs : List R} (h : xInt op k a b s = some rs) {o : Oper} {f : Operand → Value} {t t' : TypeId} {x y : Operand} (ho : o.op = .binOp op t x y t')
    (hx : f x = .int k (a.n ρ)) (hy : f y = .int k (b.n ρ)) : ∃ r ∈ rs, RS ρ W0 σ ((execOp f o).run P w) r := by
  have hop : ∀ v, (do eqGuard op t x y (f x) (f y); binOp op t (f x) (f y) : Sem Value).run P w = .ok v w → (execOp f o).run P w = .ok (.value v) w := by
    intro v hv
    unfold execOp
    simp only [ho]
    rw [Sem.run_bind, hv]
    rfl
  rw [hx, hy] at hop
  have hg : (eqGuard op t x y (.int k (a.n ρ)) (.int k (b.n ρ))).run P w = .ok () w := by
    unfold eqGuard
    cases op <;> simp
  cases op <;> simp only [xInt] at h <;> try (cases h; done)
  case quo =>
    refine guard_ok g h fun s' rs' g' hb h' => ?_
    cases h'
    rw [mkU_n, mkB_n, E.n_c] at hb
    have hb0 : b.n ρ ≠ 0 := by intro e; simp [U.den, O.den, e] at hb
    refine oneR (RS.now (w' := w) (hop _ ?_) rfl g')
    simp [hg, binOp, Op.intDiv, hb0, U.den, O.den, mkU_n, mkB_n]
  case rem =>
    refine guard_ok g h fun s' rs' g' hb h' => ?_
    cases h'
    rw [mkU_n, mkB_n, E.n_c] at hb
    have hb0 : b.n ρ ≠ 0 := by intro e; simp [U.den, O.den, e] at hb
    refine oneR (RS.now (w' := w) (hop _ ?_) rfl g')
    simp [hg, binOp, Op.intDiv, hb0, O.den, mkB_n]
  all_goals
    cases h
    refine oneR (RS.now (w' := w) (hop _ ?_) rfl g)
    simp only [Sem.run_bind, hg, Result.andThen_ok, binOp, Op.intArith, Op.intBits, Op.intCmp, mkU_n, mkB_n, O.den, ite_ne, not_ne]
    first
      | (simp [U.den]; done)
      | (by_cases hab : a.n ρ = b.n ρ <;> simp [U.den, hab])
theorem ne_dec (x : Int) : (x != 0) = !(decide (x = 0)) := by by_cases h : x = 0 <;> simp [h]
def xShift (op : BinOp) (k : IntKind) (a b : E) (s : S) : Option (List R) := match op with
  | .shl => guard s (mkB .le (.c 0) b) fun s' => some [.val (.int k (mkU (.wrap k) (mkB (.shl k) a b))) s']
  | .shr => guard s (mkB .le (.c 0) b) fun s' => some [.val (.int k (mkB (.shr k) a b)) s']
  | _ => none
theorem xShift_ok {s : S} {w : World} (g : Gam ρ W0 σ s w) {op : BinOp} {k k' : IntKind} {a b : E} {rs : List R} (h : xShift op k a b s = some rs) {o : Oper} {f : Operand → Value} {t t' : TypeId} {x y : Operand} (ho : o.op = .binOp op t x y t')
    (hx : f x = .int k (a.n ρ)) (hy : f y = .int k' (b.n ρ)) : ∃ r ∈ rs, RS ρ W0 σ ((execOp f o).run P w) r := by
  have hop : ∀ v, (do eqGuard op t x y (f x) (f y); binOp op t (f x) (f y) : Sem Value).run P w = .ok v w → (execOp f o).run P w = .ok (.value v) w := by
    intro v hv
    unfold execOp
    simp only [ho]
    rw [Sem.run_bind, hv]
    rfl
  rw [hx, hy] at hop
  cases op <;> simp only [xShift] at h <;> try (cases h; done)
  all_goals
    refine guard_ok g h fun s' rs' g' hb h' => ?_
    cases h'
    rw [mkB_n, E.n_c] at hb
    have hb0 := le_of hb
    have hb1 : ¬ b.n ρ < 0 := by omega
    refine oneR (RS.now (w' := w) (hop _ ?_) rfl g')
    simp [eqGuard, binOp, Op.shift, hb1, U.den, O.den, mkU_n, mkB_n]
def isShift : BinOp → Bool
  | .shl | .shr => true
  | _ => false
def eqRes (op : BinOp) (b : Bool) (s : S) : Option (List R) := match op with
  | .eql => some [.val (.bool (.c (if b then 1 else 0))) s]
  | .neq => some [.val (.bool (.c (if b then 0 else 1))) s]
  | _ => none
def isC : Operand → Bool
  | .const _ => true
  | _ => false
def isIfaceD : Option TypeDesc → Bool
  | some (.interface _) => true
  | _ => false
def isPtrD : Option TypeDesc → Bool
  | some (.pointer _) => true
  | _ => false
def isSliceD : Option TypeDesc → Bool
  | some (.slice _) => true
  | _ => false
def isMapD : Option TypeDesc → Bool
  | some (.map _ _) => true
  | _ => false
def isAggO : Option TypeDesc → Bool
  | some d => isAggD d
  | none => false
def isBoolD : Option TypeDesc → Bool
  | some .bool => true
  | _ => false
/-- Two values. -/
def xBin (P : Program) (op : BinOp) (t : TypeId) (cx cy : Bool) (x y : V) (s : S) : Option (List R) := match x, y with
  | .int k a, .int k' b => if isShift op = true then xShift op k a b s else if k = k' then xInt op k a b s else none
  | .bool a, .bool b => if isBoolD (P.underlying t) = true then match op with
    | .eql => some [.val (.bool (mkB .eq (mkU .not a) (mkU .not b))) s]
    | .neq => some [.val (.bool (mkU .not (mkB .eq (mkU .not a) (mkU .not b)))) s]
    | _ => none
    else none
  | .iface _ _, .nili => if isIfaceD (P.underlying t) = true then eqRes op false s else none
  | .nili, .nili => if isIfaceD (P.underlying t) = true ∧ (cx || cy) = true then eqRes op true s else none
  | .ptr .., .nilp => if isPtrD (P.underlying t) = true then eqRes op false s else none
  | .nilp, .nilp => if isPtrD (P.underlying t) = true then eqRes op true s else none
  | .slice .., .nils => if isSliceD (P.underlying t) = true then eqRes op false s else none
  | .nils, .nils => if isSliceD (P.underlying t) = true then eqRes op true s else none
  | .mapr _, .nilm => if isMapD (P.underlying t) = true then eqRes op false s else none
  | .nilm, .nilm => if isMapD (P.underlying t) = true then eqRes op true s else none
  | .agg l, .agg m => if sameL l m = true ∧ (eqT P 6 t).isSome = true ∧ eqT P 6 t = kindsL l ∧ P.eqGuardType P.depth t = false ∧ isAggO (P.underlying t) = true then eqRes op true s else none
  | .bs a n, .bs a' n' => if a = a' ∧ n = n' then eqRes op true s else none
  | .ms _ _ len, .nils => if isSliceD (P.underlying t) = true then match op with
      | .eql => some [.val (.bool (.c 1)) { s with pc := mkB .le len (.c 0) :: s.pc }, .val (.bool (.c 0)) s]
      | .neq => some [.val (.bool (.c 0)) { s with pc := mkB .le len (.c 0) :: s.pc }, .val (.bool (.c 1)) s]
      | _ => none
    else none
  | _, _ => none
theorem run_bin {w : World} {op : BinOp} {t t' : TypeId} {x y : Operand} {o : Oper} {f : Operand → Value} (ho : o.op = .binOp op t x y t') {v : Value} (hg : (eqGuard op t x y (f x) (f y)).run P w = .ok () w) (hv : (binOp op t (f x) (f y)).run P w = .ok v w) :
    (execOp f o).run P w = .ok (.value v) w := by
  unfold execOp
  simp only [ho, Sem.run_bind, hg, Result.andThen_ok, hv]
  rfl
theorem eqRes_ok {s : S} {w : World} (g : Gam ρ W0 σ s w) {op : BinOp} {b : Bool} {rs : List R} (h : eqRes op b s = some rs) {t t' : TypeId} {x y : Operand} {o : Oper} {f : Operand → Value} (ho : o.op = .binOp op t x y t') {X Y : Value} (hx : f x = X) (hy : f y = Y)
    (hg : ∀ op, (eqGuard op t x y X Y).run P w = .ok () w) (h1 : binOp .eql t X Y = (do pure (.bool (← Op.equal t X Y)))) (h2 : binOp .neq t X Y = (do pure (.bool (!(← Op.equal t X Y))))) (he : (Op.equalIn 10000 t X Y).run P w = .ok b w) :
    ∃ r ∈ rs, RS ρ W0 σ ((execOp f o).run P w) r := by
  have he' : (Op.equal t X Y).run P w = .ok b w := he
  unfold eqRes at h
  split at h
  · cases h
    refine oneR (RS.now (w' := w) (run_bin ho ?_ ?_) rfl g)
    · rw [hx, hy]; exact hg _
    · rw [hx, hy, h1]; simp only [Sem.run_bind, he', Result.andThen_ok, Sem.run_pure, E.n_c]; cases b <;> rfl
  · cases h
    refine oneR (RS.now (w' := w) (run_bin ho ?_ ?_) rfl g)
    · rw [hx, hy]; exact hg _
    · rw [hx, hy, h2]; simp only [Sem.run_bind, he', Result.andThen_ok, Sem.run_pure, E.n_c]; cases b <;> rfl
  · cases h

theorem eqIn_bool (d : Nat) {t : TypeId} {a b : Bool} (hu : P.underlying t = some .bool) (w : World) : (Op.equalIn (d + 1) t (.bool a) (.bool b)).run P w = .ok (a == b) w := by
  simp only [Op.equalIn, Sem.run_bind, run_underlying hu, Result.andThen_ok]; rfl
theorem eqIn_iface (d : Nat) {t : TypeId} {ms : Array (String × TypeId)} {u : TypeId} {x : Value} (hu : P.underlying t = some (.interface ms)) (w : World) : (Op.equalIn (d + 1) t (.iface u x) .nilIface).run P w = .ok false w := by
  simp only [Op.equalIn, Sem.run_bind, run_underlying hu, Result.andThen_ok]; rfl
theorem eqIn_ifaces (d : Nat) {t : TypeId} {ms : Array (String × TypeId)} (hu : P.underlying t = some (.interface ms)) (w : World) : (Op.equalIn (d + 1) t .nilIface .nilIface).run P w = .ok true w := by
  simp only [Op.equalIn, Sem.run_bind, run_underlying hu, Result.andThen_ok]; rfl
theorem eqIn_ptr (d : Nat) {t e : TypeId} {a : Addr} (hu : P.underlying t = some (.pointer e)) (w : World) : (Op.equalIn (d + 1) t (.pointer (some a)) (.pointer none)).run P w = .ok false w := by
  simp only [Op.equalIn, Sem.run_bind, run_underlying hu, Result.andThen_ok]; rfl
theorem eqIn_nilp (d : Nat) {t e : TypeId} (hu : P.underlying t = some (.pointer e)) (w : World) : (Op.equalIn (d + 1) t (.pointer none) (.pointer none)).run P w = .ok true w := by
  simp only [Op.equalIn, Sem.run_bind, run_underlying hu, Result.andThen_ok]; rfl
theorem eqIn_slice (d : Nat) {t e : TypeId} {a : Addr} {n m : Nat} (hu : P.underlying t = some (.slice e)) (w : World) : (Op.equalIn (d + 1) t (.slice (some a) n m) (.slice none 0 0)).run P w = .ok false w := by
  simp only [Op.equalIn, Sem.run_bind, run_underlying hu, Result.andThen_ok]; rfl
theorem eqIn_nils (d : Nat) {t e : TypeId} (hu : P.underlying t = some (.slice e)) (w : World) : (Op.equalIn (d + 1) t (.slice none 0 0) (.slice none 0 0)).run P w = .ok true w := by
  simp only [Op.equalIn, Sem.run_bind, run_underlying hu, Result.andThen_ok]; rfl
theorem eqIn_nilsl (d n m : Nat) {t e : TypeId} (hu : P.underlying t = some (.slice e)) (w : World) : (Op.equalIn (d + 1) t (.slice none n m) (.slice none 0 0)).run P w = .ok true w := by
  simp only [Op.equalIn, Sem.run_bind, run_underlying hu, Result.andThen_ok]; rfl
theorem eqIn_map (d : Nat) {t k e : TypeId} {r : Nat} (hu : P.underlying t = some (.map k e)) (w : World) : (Op.equalIn (d + 1) t (.map (some r)) (.map none)).run P w = .ok false w := by
  simp only [Op.equalIn, Sem.run_bind, run_underlying hu, Result.andThen_ok]; rfl
theorem eqIn_nilm (d : Nat) {t k e : TypeId} (hu : P.underlying t = some (.map k e)) (w : World) : (Op.equalIn (d + 1) t (.map none) (.map none)).run P w = .ok true w := by
  simp only [Op.equalIn, Sem.run_bind, run_underlying hu, Result.andThen_ok]; rfl

theorem ms_len' {o b : Nat} {len : E} {v : Value} (h : msOf ρ σ o b len = some v) : ∃ a n c, v = .slice a n c ∧ (n : Int) = len.n ρ := by
  unfold msOf at h
  split at h
  · split at h
    · rename_i h0; cases h; exact ⟨_, _, _, rfl, h0.symm⟩
    · cases h
  · split at h
    · rename_i h0; cases h; exact ⟨_, _, _, rfl, h0.2⟩
    · cases h
  · cases h
theorem ms_nil' {o b : Nat} {len : E} {v : Value} (h : msOf ρ σ o b len = some v) {n c : Nat} (hv : v = .slice none n c) : len.n ρ = 0 := by
  unfold msOf at h
  split at h
  · split at h
    · assumption
    · cases h
  · split at h
    · cases h; cases hv
    · cases h
  · cases h
theorem xBin_ok {s : S} {w : World} (g : Gam ρ W0 σ s w) {op : BinOp} {u v : V} {rs : List R} {t t' : TypeId} {x y : Operand} (h : xBin P op t (isC x) (isC y) u v s = some rs) {o : Oper} {f : Operand → Value} (ho : o.op = .binOp op t x y t')
    (hx : u.val ρ σ = some (f x)) (hy : v.val ρ σ = some (f y)) : ∃ r ∈ rs, RS ρ W0 σ ((execOp f o).run P w) r := by
  unfold xBin at h
  split at h
  · rename_i k a k' b
    simp only [V.val, Option.some.injEq] at hx hy
    split at h
    · exact xShift_ok g h ho hx.symm hy.symm
    · split at h
      · rename_i hk; subst hk; exact xInt_ok g h ho hx.symm hy.symm
      · cases h
  · rename_i a b
    simp only [V.val, Option.some.injEq] at hx hy
    split at h
    · rename_i hu'
      have hu : P.underlying t = some .bool := by revert hu'; cases P.underlying t <;> simp [isBoolD]; rename_i d; cases d <;> simp
      have key : (Op.equal t (f x) (f y)).run P w = .ok ((a.n ρ != 0) == (b.n ρ != 0)) w := by
        rw [← hx, ← hy]
        exact eqIn_bool 9999 hu w
      have hgd : ∀ op, (eqGuard op t x y (f x) (f y)).run P w = .ok () w := by
        intro op; rw [← hx, ← hy]; simp [eqGuard]
      have hb1 : binOp .eql t (f x) (f y) = (do pure (.bool (← Op.equal t (f x) (f y)))) := by rw [← hx, ← hy]; rfl
      have hb2 : binOp .neq t (f x) (f y) = (do pure (.bool (!(← Op.equal t (f x) (f y))))) := by rw [← hx, ← hy]; rfl
      split at h
      · cases h
        refine oneR (RS.now (w' := w) (run_bin ho (hgd _) ?_) rfl g)
        rw [hb1]
        simp only [Sem.run_bind, key, Result.andThen_ok, Sem.run_pure, mkU_n, mkB_n]
        congr 2
        simp only [U.den, O.den]
        rw [ne_dec (a.n ρ), ne_dec (b.n ρ)]; by_cases h1 : a.n ρ = 0 <;> by_cases h2 : b.n ρ = 0 <;> simp [h1, h2]
      · cases h
        refine oneR (RS.now (w' := w) (run_bin ho (hgd _) ?_) rfl g)
        rw [hb2]
        simp only [Sem.run_bind, key, Result.andThen_ok, Sem.run_pure, mkU_n, mkB_n]
        congr 2
        simp only [U.den, O.den]
        rw [ne_dec (a.n ρ), ne_dec (b.n ρ)]; by_cases h1 : a.n ρ = 0 <;> by_cases h2 : b.n ρ = 0 <;> simp [h1, h2]
      · cases h
    · cases h
  · split at h
    · rename_i hu'
      obtain ⟨ms, hu⟩ : ∃ ms, P.underlying t = some (.interface ms) := by revert hu'; cases P.underlying t <;> simp [isIfaceD]; rename_i d; cases d <;> simp
      simp only [V.val, Option.map_eq_some_iff, Option.some.injEq] at hx hy
      obtain ⟨q, _, hx⟩ := hx
      exact eqRes_ok g h ho hx.symm hy.symm (by intro op; simp [eqGuard]) rfl rfl (eqIn_iface 9999 hu w)
    · cases h
  · split at h
    · rename_i hu'
      obtain ⟨hu', hc⟩ := hu'
      obtain ⟨ms, hu⟩ : ∃ ms, P.underlying t = some (.interface ms) := by revert hu'; cases P.underlying t <;> simp [isIfaceD]; rename_i d; cases d <;> simp
      simp only [V.val, Option.some.injEq] at hx hy
      refine eqRes_ok g h ho hx.symm hy.symm ?_ rfl rfl (eqIn_ifaces 9999 hu w)
      intro op
      revert hc
      cases x <;> cases y <;> simp [eqGuard, isC]
    · cases h
  · split at h
    · rename_i hu'
      obtain ⟨ms, hu⟩ : ∃ ms, P.underlying t = some (.pointer ms) := by revert hu'; cases P.underlying t <;> simp [isPtrD]; rename_i d; cases d <;> simp
      simp only [V.val, Option.map_eq_some_iff, Option.some.injEq] at hx hy
      obtain ⟨q, _, hx⟩ := hx
      exact eqRes_ok g h ho hx.symm hy.symm (by intro op; simp [eqGuard]) rfl rfl (eqIn_ptr 9999 hu w)
    · cases h
  · split at h
    · rename_i hu'
      obtain ⟨ms, hu⟩ : ∃ ms, P.underlying t = some (.pointer ms) := by revert hu'; cases P.underlying t <;> simp [isPtrD]; rename_i d; cases d <;> simp
      simp only [V.val, Option.some.injEq] at hx hy
      exact eqRes_ok g h ho hx.symm hy.symm (by intro op; simp [eqGuard]) rfl rfl (eqIn_nilp 9999 hu w)
    · cases h
  · split at h
    · rename_i hu'
      obtain ⟨ms, hu⟩ : ∃ ms, P.underlying t = some (.slice ms) := by revert hu'; cases P.underlying t <;> simp [isSliceD]; rename_i d; cases d <;> simp
      simp only [V.val] at hx
      split at hx
      · simp only [V.val, Option.some.injEq] at hx hy
        exact eqRes_ok g h ho hx.symm hy.symm (by intro op; simp [eqGuard]) rfl rfl (eqIn_slice 9999 hu w)
      · cases hx
    · cases h
  · split at h
    · rename_i hu'
      obtain ⟨ms, hu⟩ : ∃ ms, P.underlying t = some (.slice ms) := by revert hu'; cases P.underlying t <;> simp [isSliceD]; rename_i d; cases d <;> simp
      simp only [V.val, Option.some.injEq] at hx hy
      exact eqRes_ok g h ho hx.symm hy.symm (by intro op; simp [eqGuard]) rfl rfl (eqIn_nils 9999 hu w)
    · cases h
  · split at h
    · rename_i hu'
      obtain ⟨ms, ms', hu⟩ : ∃ ms ms', P.underlying t = some (.map ms ms') := by revert hu'; cases P.underlying t <;> simp [isMapD]; rename_i d; cases d <;> simp
      simp only [V.val, Option.map_eq_some_iff, Option.some.injEq] at hx hy
      obtain ⟨q, _, hx⟩ := hx
      exact eqRes_ok g h ho hx.symm hy.symm (by intro op; simp [eqGuard]) rfl rfl (eqIn_map 9999 hu w)
    · cases h
  · split at h
    · rename_i hu'
      obtain ⟨ms, ms', hu⟩ : ∃ ms ms', P.underlying t = some (.map ms ms') := by revert hu'; cases P.underlying t <;> simp [isMapD]; rename_i d; cases d <;> simp
      simp only [V.val, Option.some.injEq] at hx hy
      exact eqRes_ok g h ho hx.symm hy.symm (by intro op; simp [eqGuard]) rfl rfl (eqIn_nilm 9999 hu w)
    · cases h
  · rename_i l m
    split at h
    · rename_i hc
      obtain ⟨hs, hsome, hk, hgd, hagg⟩ := hc
      have hlm := sameL_eq _ _ hs
      subst hlm
      simp only [V.val, Option.map_eq_some_iff] at hx hy
      obtain ⟨cs, hcs, hx⟩ := hx
      obtain ⟨cs', hcs', hy⟩ := hy
      rw [hcs] at hcs'
      cases hcs'
      obtain ⟨ks, hks⟩ := Option.isSome_iff_exists.1 hsome
      rw [hks] at hk
      have hT := kindsL_ok ρ σ l ks cs hk.symm hcs
      have hv : asV P t cs = .agg cs.toArray := by
        unfold asV
        cases hu : P.underlying t with
        | none => rw [hu] at hagg; cases hagg
        | some d => rw [hu] at hagg; simp only [isAggO] at hagg; simp [hagg]
      have he := eqT_ok w 6 t ks hks 10000 (by omega) cs hT
      rw [hv] at he
      exact eqRes_ok g h ho hx.symm hy.symm (fun op => run_eqGuard_agg w op t x y _ _ hgd) rfl rfl he
    · cases h
  · rename_i a n a' n'
    split at h
    · rename_i hc
      obtain ⟨rfl, rfl⟩ := hc
      simp only [V.val, Option.map_eq_some_iff] at hx hy
      obtain ⟨k, hk, hx⟩ := hx
      obtain ⟨k', hk', hy⟩ := hy
      rw [hk] at hk'
      cases hk'
      have hgd : ∀ op, (eqGuard op t x y (f x) (f y)).run P w = .ok () w := by intro op; rw [← hx, ← hy]; simp [eqGuard]
      unfold eqRes at h
      split at h
      · cases h
        refine oneR (RS.now (w' := w) (x := .bool true) (run_bin ho (hgd _) ?_) rfl g)
        rw [← hx, ← hy]; simp [binOp, Op.stringOp]
      · cases h
        refine oneR (RS.now (w' := w) (x := .bool false) (run_bin ho (hgd _) ?_) rfl g)
        rw [← hx, ← hy]; simp [binOp, Op.stringOp]
      · cases h
    · cases h
  · rename_i q b len
    split at h
    · rename_i hu'
      obtain ⟨el, hu⟩ : ∃ ms, P.underlying t = some (.slice ms) := by revert hu'; cases P.underlying t <;> simp [isSliceD]; rename_i d; cases d <;> simp
      simp only [V.val, Option.some.injEq] at hx hy
      obtain ⟨ad, n, c, hfx, hn⟩ := ms_len' hx
      have hgd : ∀ op, (eqGuard op t x y (f x) (f y)).run P w = .ok () w := by intro op; rw [← hy, hfx]; simp [eqGuard]
      have hb1 : binOp .eql t (f x) (f y) = (do pure (.bool (← Op.equal t (f x) (f y)))) := by rw [← hy, hfx]; rfl
      have hb2 : binOp .neq t (f x) (f y) = (do pure (.bool (!(← Op.equal t (f x) (f y))))) := by rw [← hy, hfx]; rfl
      cases ad with
      | none =>
        have h0 : len.n ρ = 0 := ms_nil' hx hfx
        have key : (Op.equal t (f x) (f y)).run P w = .ok true w := by
          rw [← hy, hfx]
          exact eqIn_nilsl 9999 _ _ hu w
        have g' : Gam ρ W0 σ { s with pc := mkB .le len (.c 0) :: s.pc } w := g.more (by rw [mkB_n, E.n_c, h0]; decide)
        split at h
        · cases h
          refine ⟨_, List.mem_cons_self, RS.now (w' := w) (x := .bool true) (run_bin ho (hgd _) ?_) rfl g'⟩
          rw [hb1]; simp only [Sem.run_bind, key, Result.andThen_ok, Sem.run_pure]
        · cases h
          refine ⟨_, List.mem_cons_self, RS.now (w' := w) (x := .bool false) (run_bin ho (hgd _) ?_) rfl g'⟩
          rw [hb2]; simp only [Sem.run_bind, key, Result.andThen_ok, Sem.run_pure, Bool.not_true]
        · cases h
      | some ad =>
        have key : (Op.equal t (f x) (f y)).run P w = .ok false w := by
          rw [← hy, hfx]
          exact eqIn_slice 9999 hu w
        split at h
        · cases h
          refine ⟨_, List.mem_cons_of_mem _ List.mem_cons_self, RS.now (w' := w) (x := .bool false) (run_bin ho (hgd _) ?_) rfl g⟩
          rw [hb1]; simp only [Sem.run_bind, key, Result.andThen_ok, Sem.run_pure]
        · cases h
          refine ⟨_, List.mem_cons_of_mem _ List.mem_cons_self, RS.now (w' := w) (x := .bool true) (run_bin ho (hgd _) ?_) rfl g⟩
          rw [hb2]; simp only [Sem.run_bind, key, Result.andThen_ok, Sem.run_pure, Bool.not_false]
        · cases h
    · cases h
  · cases h
end
end Go.SX
