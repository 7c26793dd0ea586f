/- A symbolic executor, part F: what one operation comes to. -/
import Derived.Test.YtfnekjeicdhihaaSxE
namespace Go.SX

/-! ### Zero values -/
def eqS : Value → Value → Bool
  | .int k n, .int k' n' => decide (k = k') && decide (n = n')
  | .bool b, .bool b' => b == b'
  | _, _ => false
theorem eqS_eq : ∀ {x y : Value}, eqS x y = true → x = y := by
  intro x y h
  cases x <;> cases y <;> simp [eqS] at h
  · rw [h]
  · rw [h.1, h.2]
def eqSL : List Value → List Value → Bool
  | [], [] => true
  | x :: xs, y :: ys => eqS x y && eqSL xs ys
  | _, _ => false
theorem eqSL_eq : ∀ {x y : List Value}, eqSL x y = true → x = y
  | [], [], _ => rfl
  | x :: xs, y :: ys, h => by
    simp only [eqSL, Bool.and_eq_true] at h
    rw [eqS_eq h.1, eqSL_eq h.2]
  | [], _ :: _, h => by simp [eqSL] at h
  | _ :: _, [], h => by simp [eqSL] at h
/-- Does a value, all known, read so? -/
def zone : V → Value → Bool
  | .int k (.c n), .int k' m => decide (k = k') && decide (n = m)
  | .bool (.c n), .bool b => (n != 0) == b
  | .str s, .string s' => decide (s = s')
  | .nilp, .pointer none => true
  | .nils, .slice none 0 0 => true
  | .nilm, .map none => true
  | .nilf, .nilFunc => true
  | .nili, .nilIface => true
  | _, _ => false
theorem zone_ok {ρ : Env} {σ : Sig} {x : V} {v : Value} (h : zone x v = true) : x.cells ρ σ = some [v] ∧ x.val ρ σ = some v := by
  unfold zone at h
  split at h <;> first | (cases h; done) | skip
  · simp only [Bool.and_eq_true, decide_eq_true_eq] at h; obtain ⟨rfl, rfl⟩ := h; exact ⟨rfl, rfl⟩
  · simp only [beq_iff_eq] at h; subst h; exact ⟨rfl, rfl⟩
  · simp only [decide_eq_true_eq] at h; subst h; exact ⟨rfl, rfl⟩
  all_goals exact ⟨rfl, rfl⟩
def isZ : V → Option (List CK × Int)
  | .arr .zz ks (.c n) => some (ks, n)
  | _ => none
theorem isZ_eq {x : V} {ks : List CK} {n : Int} (h : isZ x = some (ks, n)) : x = .arr .zz ks (.c n) := by
  unfold isZ at h
  split at h
  · cases h; rfl
  · cases h
def zchk : List V → List Value → Bool
  | [], ys => ys.isEmpty
  | x :: xs, ys => match isZ x with
    | some (ks, n) => decide (0 ≤ n) && eqSL (arrCells (fun _ _ => 0) ks n.toNat) (ys.take (n.toNat * ks.length)) && zchk xs (ys.drop (n.toNat * ks.length))
    | none => match ys with
      | y :: ys => zone x y && zchk xs ys
      | [] => false
theorem zchk_ok (ρ : Env) (σ : Sig) : ∀ (l : List V) (vs : List Value), zchk l vs = true → cellsL ρ σ l = some vs
  | [], vs, h => by cases vs <;> simp [zchk] at h ⊢; rfl
  | x :: xs, vs, h => by
    simp only [zchk] at h
    cases hz : isZ x with
    | some p =>
      obtain ⟨ks, n⟩ := p
      rw [hz] at h
      have hx := isZ_eq hz
      subst hx
      simp only [Bool.and_eq_true, decide_eq_true_eq] at h
      have h1 : (V.arr .zz ks (.c n)).cells ρ σ = some (vs.take (n.toNat * ks.length)) := by
        simp only [V.cells, natOf, E.n_c, h.1.1, if_true, Option.map_some, E.a_zz]
        rw [eqSL_eq h.1.2]
      have := cellsL_cons_some h1 (zchk_ok ρ σ xs _ h.2)
      rwa [List.take_append_drop] at this
    | none =>
      rw [hz] at h
      cases vs with
      | nil => cases h
      | cons y ys =>
        simp only [Bool.and_eq_true] at h
        exact cellsL_cons_some (a := [y]) (zone_ok h.1).1 (zchk_ok ρ σ xs ys h.2)

def scalarK (P : Program) (t : TypeId) : Option CK := match P.underlying t with
  | some .bool => some .bool
  | some (.int k) => some (.int k)
  | _ => none
def scalarKs (P : Program) (t : TypeId) : Option (List CK) := match P.underlying t with
  | some (.struct fs) => fs.toList.mapM fun f => scalarK P f.type
  | _ => (scalarK P t).map ([·])
def zsegs (P : Program) : Nat → TypeId → Option (List V)
  | 0, _ => none
  | f + 1, t => match P.underlying t with
    | some .bool => some [.bool (.c 0)]
    | some (.int k) => some [.int k (.c 0)]
    | some .string => some [.str .empty]
    | some (.pointer _) => some [.nilp]
    | some (.slice _) => some [.nils]
    | some (.map _ _) => some [.nilm]
    | some (.func _ _ _) => some [.nilf]
    | some (.interface _) => some [.nili]
    | some (.struct fs) => (fs.toList.mapM fun x => zsegs P f x.type).map List.flatten
    | some (.array n e) => match (if 3 < n then scalarKs P e else none) with
      | some ks => some [.arr .zz ks (.c n)]
      | none => (zsegs P f e).map fun l => (List.replicate n l).flatten
    | _ => none
def zeroOf (P : Program) (t : TypeId) : Option (List V) := match P.info? t with
  | some inf => match inf.zero, zsegs P 8 t with
    | some z, some l => if zchk l z.cells.toList = true then some l else none
    | _, _ => none
  | none => none
theorem zeroOf_ok {P : Program} {t : TypeId} {l : List V} (h : zeroOf P t = some l) (ρ : Env) (σ : Sig) (w : World) : ∃ z, (zeroValue t).run P w = .ok z w ∧ cellsL ρ σ l = some z.cells.toList := by
  unfold zeroOf at h
  split at h
  · rename_i inf hi
    split at h
    · rename_i z l' hz _
      split at h
      · rename_i hc
        cases h
        exact ⟨z, by simp [zeroValue, typeInfo, hi, hz], zchk_ok ρ σ _ _ hc⟩
      · cases h
    · cases h
  · cases h

/-! ### What comes of an operation -/
inductive R where
  | val (v : V) (s : S)
  | pan (v : V) (s : S)
  | bad (s : S)

def RS (ρ : Env) (W0 : World) (σ : Sig) (res : Result Next) : R → Prop
  | .val v s => ∃ x w' τ, (res = .ok (.value x) w' ∨ (res = .ok .skip w' ∧ x = undef)) ∧ v.val ρ (σ ++ τ) = some x ∧ Gam ρ W0 (σ ++ τ) s w'
  | .pan v s => ∃ x w' τ, res = .halt (.panic x) w' ∧ v.val ρ (σ ++ τ) = some x ∧ Gam ρ W0 (σ ++ τ) s w'
  | .bad s => PC ρ s.pc
theorem RS.now {ρ : Env} {W0 : World} {σ : Sig} {res : Result Next} {v : V} {s : S} {x : Value} {w' : World} (h : res = .ok (.value x) w') (hv : v.val ρ σ = some x) (g : Gam ρ W0 σ s w') : RS ρ W0 σ res (.val v s) :=
  ⟨x, w', [], .inl h, by rw [List.append_nil]; exact hv, by rw [List.append_nil]; exact g⟩
theorem RS.later {ρ : Env} {W0 : World} {σ : Sig} {res : Result Next} {v : V} {s : S} {x : Value} {w' : World} (τ : Sig) (h : res = .ok (.value x) w') (hv : v.val ρ (σ ++ τ) = some x) (g : Gam ρ W0 (σ ++ τ) s w') : RS ρ W0 σ res (.val v s) :=
  ⟨x, w', τ, .inl h, hv, g⟩
theorem oneR {r : R} {Q : R → Prop} (h : Q r) : ∃ x ∈ [r], Q x := ⟨r, List.mem_singleton.2 rfl, h⟩
theorem RS.nowSkip {ρ : Env} {W0 : World} {σ : Sig} {res : Result Next} {s : S} {w' : World} (h : res = .ok .skip w') (g : Gam ρ W0 σ s w') : RS ρ W0 σ res (.val (.tup []) s) :=
  ⟨undef, w', [], .inr ⟨h, rfl⟩, by rw [List.append_nil]; rfl, by rw [List.append_nil]; exact g⟩

/-- A test: the ways that are left. -/
def spl (s : S) (e : E) : List (S × Bool) := match e with
  | .c n => [(s, n != 0)]
  | e => if known s.pc e = true then [(s, true)] else if known s.pc (neg e) = true then [(s, false)]
      else [({ s with pc := e :: s.pc }, true), ({ s with pc := neg e :: s.pc }, false)]
theorem Gam.more {ρ : Env} {W0 : World} {σ : Sig} {s : S} {w : World} (g : Gam ρ W0 σ s w) {e : E} (h : e.n ρ ≠ 0) : Gam ρ W0 σ { s with pc := e :: s.pc } w :=
  { g with pc := fun x hx => by rcases List.mem_cons.1 hx with rfl | hx <;> first | exact h | exact g.pc _ hx }
theorem spl_ok {ρ : Env} {W0 : World} {σ : Sig} {s : S} {w : World} (g : Gam ρ W0 σ s w) (e : E) : ∃ p ∈ spl s e, Gam ρ W0 σ p.1 w ∧ (p.2 = true ↔ e.n ρ ≠ 0) := by
  unfold spl
  split
  · rename_i n
    exact ⟨(s, n != 0), by simp, g, by simp [E.n_c]⟩
  · split
    · rename_i h
      exact ⟨(s, true), by simp, g, by simp [known_n g.pc h]⟩
    · split
      · rename_i h
        have := known_n g.pc h
        rw [neg_n] at this
        exact ⟨(s, false), by simp, g, by simp [this]⟩
      · by_cases h : e.n ρ = 0
        · exact ⟨({ s with pc := neg e :: s.pc }, false), by simp, g.more ((neg_n ρ e).2 h), by simp [h]⟩
        · exact ⟨({ s with pc := e :: s.pc }, true), by simp, g.more h, by simp [h]⟩
/-- Only the way on which a test holds is of use. -/
def guard (s : S) (e : E) (k : S → Option (List R)) : Option (List R) :=
  (spl s e).foldr (fun p acc => match (if p.2 = true then k p.1 else some [.bad p.1]), acc with
    | some a, some b => some (a ++ b)
    | _, _ => none) (some [])
theorem guard_ok {ρ : Env} {W0 : World} {σ : Sig} {s : S} {w : World} (g : Gam ρ W0 σ s w) {e : E} {k : S → Option (List R)} {rs : List R} (h : guard s e k = some rs) {res : Result Next}
    (hk : ∀ s' rs', Gam ρ W0 σ s' w → e.n ρ ≠ 0 → k s' = some rs' → ∃ r ∈ rs', RS ρ W0 σ res r) : ∃ r ∈ rs, RS ρ W0 σ res r := by
  obtain ⟨p, hp, g', hb⟩ := spl_ok g e
  unfold guard at h
  revert rs
  generalize spl s e = l at hp
  induction l with
  | nil => cases hp
  | cons q l ih =>
    intro rs h
    simp only [List.foldr_cons] at h
    split at h
    · rename_i a b ha hb'
      cases h
      rcases List.mem_cons.1 hp with rfl | hp
      · split at ha
        · rename_i hp2
          obtain ⟨r, hr, hrs⟩ := hk _ _ g' (hb.1 hp2) ha
          exact ⟨r, List.mem_append_left _ hr, hrs⟩
        · cases ha
          exact ⟨.bad p.1, by simp, g'.pc⟩
      · obtain ⟨r, hr, hrs⟩ := ih hp hb'
        exact ⟨r, List.mem_append_right _ hr, hrs⟩
    · cases h
/-- Both ways are of use. -/
def fork (s : S) (e : E) (k : S → Bool → Option (List R)) : Option (List R) :=
  (spl s e).foldr (fun p acc => match k p.1 p.2, acc with
    | some a, some b => some (a ++ b)
    | _, _ => none) (some [])
theorem fork_ok {ρ : Env} {W0 : World} {σ : Sig} {s : S} {w : World} (g : Gam ρ W0 σ s w) {e : E} {k : S → Bool → Option (List R)} {rs : List R} (h : fork s e k = some rs) {res : Result Next}
    (hk : ∀ s' b rs', Gam ρ W0 σ s' w → (b = true ↔ e.n ρ ≠ 0) → k s' b = some rs' → ∃ r ∈ rs', RS ρ W0 σ res r) : ∃ r ∈ rs, RS ρ W0 σ res r := by
  obtain ⟨p, hp, g', hb⟩ := spl_ok g e
  unfold fork at h
  revert rs
  generalize spl s e = l at hp
  induction l with
  | nil => cases hp
  | cons q l ih =>
    intro rs h
    simp only [List.foldr_cons] at h
    split at h
    · rename_i a b ha hb'
      cases h
      rcases List.mem_cons.1 hp with rfl | hp
      · obtain ⟨r, hr, hrs⟩ := hk _ _ _ g' hb ha
        exact ⟨r, List.mem_append_left _ hr, hrs⟩
      · obtain ⟨r, hr, hrs⟩ := ih hp hb'
        exact ⟨r, List.mem_append_right _ hr, hrs⟩
    · cases h

/-! ### Operands -/
def ofVal : Value → Option V
  | .int k n => some (.int k (.c n))
  | .bool b => some (.bool (.c (if b then 1 else 0)))
  | .string s => some (.str s)
  | .pointer none => some .nilp
  | .slice none 0 0 => some .nils
  | .map none => some .nilm
  | .nilFunc => some .nilf
  | .nilIface => some .nili
  | .tuple ⟨[]⟩ => some (.tup [])
  | _ => none
theorem ofVal_ok {ρ : Env} {σ : Sig} {x : Value} {v : V} (h : ofVal x = some v) : v.val ρ σ = some x := by
  unfold ofVal at h
  split at h <;> cases h <;> try rfl
  rename_i b
  cases b <;> rfl
def ev (tm : List (Option V)) : Operand → Option V
  | .tmp t => (tm[t]?).getD none
  | .const v => ofVal v
  | .global _ => none
  | .func f => some (.fn f [])
/-- What the frame's slots hold. -/
def FR (ρ : Env) (σ : Sig) (tm : List (Option V)) (a : Act) : Prop := tm.length = a.tmps.size ∧ ∀ (i : Nat) (v : V), tm[i]? = some (some v) → v.val ρ σ = a.tmps[i]?
def EV (ρ : Env) (σ : Sig) (e : Operand → Option V) (f : Operand → Value) : Prop := ∀ (x : Operand) (v : V), e x = some v → v.val ρ σ = some (f x)
theorem FR.ev {ρ : Env} {σ : Sig} {tm : List (Option V)} {a : Act} (h : FR ρ σ tm a) : EV ρ σ (ev tm) a.eval := by
  intro x v hx
  cases x with
  | tmp t =>
    simp only [SX.ev] at hx
    cases ht : tm[t]? with
    | none => rw [ht] at hx; cases hx
    | some o =>
      rw [ht] at hx
      simp only [Option.getD_some] at hx
      subst hx
      rw [h.2 t v ht]
      have : t < a.tmps.size := by rw [← h.1]; exact (List.getElem?_eq_some_iff.1 ht).1
      simp [Act.eval, this]
  | const c => exact ofVal_ok hx
  | global g => cases hx
  | func f => cases hx; rfl
theorem FR.ext {ρ : Env} {σ : Sig} (τ : Sig) {tm : List (Option V)} {a : Act} (h : FR ρ σ tm a) : FR ρ (σ ++ τ) tm a := by
  refine ⟨h.1, fun i v hi => ?_⟩
  have hlt : i < a.tmps.size := by rw [← h.1]; exact (List.getElem?_eq_some_iff.1 hi).1
  have h1 := h.2 i v hi
  rw [Array.getElem?_eq_getElem hlt] at h1 ⊢
  exact V.val_ext τ _ _ h1
def putT (tm : List (Option V)) (d : Option Tmp) (v : V) : List (Option V) := match d with
  | some d => tm.set d (some v)
  | none => tm
theorem FR.put {ρ : Env} {σ : Sig} {tm : List (Option V)} {a : Act} (h : FR ρ σ tm a) (d : Option Tmp) {v : V} {x : Value} (hv : v.val ρ σ = some x) : FR ρ σ (putT tm d v) (a.put d x) := by
  cases d with
  | none => exact h
  | some d =>
    refine ⟨by simp [putT, Act.put, h.1], fun i u hi => ?_⟩
    simp only [putT, List.getElem?_set] at hi
    simp only [Act.put, Array.getElem?_setIfInBounds]
    by_cases hd : d = i
    · subst hd
      simp only [if_true] at hi ⊢
      split at hi
      · rename_i hlt
        cases hi
        rw [if_pos (by rw [← h.1]; exact hlt)]
        exact hv
      · cases hi
    · rw [if_neg hd] at hi ⊢
      exact h.2 i u hi
end Go.SX
