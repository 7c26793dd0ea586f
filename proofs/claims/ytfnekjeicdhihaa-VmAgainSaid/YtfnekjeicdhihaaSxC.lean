/- A symbolic executor, part C: cells taken out of a row, and put into it. -/
import Derived.Test.YtfnekjeicdhihaaSxB
namespace Go.SX

/-- Cells c .. c + n - 1 of a row. -/
def takeC (pc : List E) : List V → Nat → Nat → Option (List V)
  | [], _, n => if n = 0 then some [] else none
  | x :: xs, c, n => if n = 0 then some [] else match x.nc with
    | some k => if k ≤ c then takeC pc xs (c - k) n
        else if c = 0 ∧ k ≤ n then (takeC pc xs 0 (n - k)).map (x :: ·)
        else match x with
          | .arr a ks _ => (takeC pc xs 0 (n - min n (k - c))).map (arrPart a ks c (min n (k - c)) ++ ·)
          | _ => none
    | none => match x with
      | .arr a ks rows => if c % ks.length + n ≤ ks.length ∧ known pc (mkB .lt (.c (c / ks.length : Nat)) rows) = true then some (rowPart a ks (.c (c / ks.length : Nat)) (c % ks.length) n) else none
      | _ => none

theorem takeC_ok {ρ : Env} {σ : Sig} {pc : List E} (hp : PC ρ pc) : ∀ (l : List V) (c n : Nat) (r : List V) (cs : List Value), takeC pc l c n = some r → cellsL ρ σ l = some cs →
    (n = 0 ∨ c + n ≤ cs.length) ∧ cellsL ρ σ r = some ((cs.drop c).take n)
  | [], c, n, r, cs, h, hc => by
    simp only [takeC] at h
    split at h
    · rename_i h0; cases h; subst h0; simp [cellsL]
    · cases h
  | x :: xs, c, n, r, cs, h, hc => by
    obtain ⟨a, b, h1, h2, rfl⟩ := cellsL_cons hc
    simp only [takeC] at h
    split at h
    · rename_i h0; cases h; subst h0; simp [cellsL]
    · rename_i hn0
      split at h
      · rename_i k hk
        have hl := V.nc_cells ρ σ x k a hk h1
        split at h
        · rename_i hkc
          obtain ⟨h3, h4⟩ := takeC_ok hp xs (c - k) n r b h h2
          refine ⟨by right; simp only [List.length_append]; omega, ?_⟩
          rw [h4, List.drop_append, List.drop_eq_nil_of_le (as := a) (i := c) (by omega), hl, List.nil_append]
        · rename_i hkc
          split at h
          · rename_i hc0
            obtain ⟨rfl, hkn⟩ := hc0
            simp only [Option.map_eq_some_iff] at h
            obtain ⟨r', hr', rfl⟩ := h
            obtain ⟨h3, h4⟩ := takeC_ok hp xs 0 (n - k) r' b hr' h2
            refine ⟨by right; simp only [List.length_append]; omega, ?_⟩
            rw [cellsL_cons_some h1 h4]
            simp only [List.drop_zero, List.take_append, hl, List.take_of_length_le (show a.length ≤ n by omega)]
          · rename_i hcn
            split at h
            · rename_i e ks rows
              simp only [Option.map_eq_some_iff] at h
              obtain ⟨r', hr', rfl⟩ := h
              obtain ⟨h3, h4⟩ := takeC_ok hp xs 0 _ r' b hr' h2
              rw [cellsL_append_some (arrPart_cells ρ σ e ks c _) h4]
              simp only [V.cells, Option.map_eq_some_iff] at h1
              obtain ⟨N, hN, rfl⟩ := h1
              rw [arrCells_length] at hl
              have hle : c + min n (k - c) ≤ N * ks.length := by omega
              refine ⟨by right; simp only [List.length_append, arrCells_length]; omega, ?_⟩
              rw [← arrCells_part _ ks N _ _ hle, List.drop_append_of_le_length (by rw [arrCells_length]; omega), List.take_append, List.length_drop, arrCells_length, hl]
              congr 2
              by_cases hnk : n ≤ k - c
              · rw [Nat.min_eq_left hnk]
              · rw [Nat.min_eq_right (by omega), List.take_of_length_le (by simp only [List.length_drop, arrCells_length]; omega), List.take_of_length_le (by simp only [List.length_drop, arrCells_length]; omega)]
              simp only [List.drop_zero]
              congr 1
              omega
            · cases h
      · rename_i hnc
        split at h
        · rename_i e ks rows
          split at h
          · rename_i hcond
            obtain ⟨hlt, hkn⟩ := hcond
            cases h
            have hb := known_n hp hkn
            rw [mkB_n, E.n_c, O.den] at hb
            simp only [V.cells, natOf] at h1
            split at h1
            · rename_i h0
              simp only [Option.map_some, Option.some.injEq] at h1
              subst h1
              have hrow : (c / ks.length : Nat) < (rows.n ρ).toNat := by
                split at hb
                · omega
                · simp at hb
              have hpos : 0 < ks.length := by omega
              have hcd : c / ks.length * ks.length + c % ks.length = c := by rw [Nat.mul_comm]; exact Nat.div_add_mod c ks.length
              have hle : c + n ≤ (rows.n ρ).toNat * ks.length := by
                have h5 : (c / ks.length + 1) * ks.length ≤ (rows.n ρ).toNat * ks.length := Nat.mul_le_mul_right _ hrow
                rw [Nat.add_mul] at h5
                omega
              refine ⟨by right; simp only [List.length_append, arrCells_length]; omega, ?_⟩
              rw [rowPart_cells ρ σ e ks _ _ n (by rw [E.n_c]; exact Int.natCast_nonneg _) hlt, List.drop_append_of_le_length (by rw [arrCells_length]; omega), List.take_append_of_le_length (by simp only [List.length_drop, arrCells_length]; omega),
                arrCells_part _ _ _ _ _ hle]
              congr 1
              apply List.map_congr_left
              intro j _
              congr 1
              rw [E.n_c, Int.toNat_natCast]
              omega
            · cases h1
          · cases h
        · cases h

/-- Cells c .. c + n - 1 of row number i of a row of rows, 's' cells a row, which begins at cell 'c' less what lies within the row. -/
def takeS (pc : List E) (s : Nat) (i : E) : List V → Nat → Nat → Option (List V)
  | [], _, _ => none
  | x :: xs, c, n => match x with
    | .arr a ks rows => if ks.length = s ∧ c + n ≤ s ∧ 0 < n ∧ known pc (mkB .le (.c 0) i) = true ∧ known pc (mkB .lt i rows) = true then some (rowPart a ks i c n)
        else match (V.arr a ks rows).nc with
          | some k => if k ≤ c then takeS pc s i xs (c - k) n else none
          | none => none
    | x => match x.nc with
      | some k => if k ≤ c then takeS pc s i xs (c - k) n else none
      | none => none

theorem lt_of {a b : Int} (h : (if a < b then (1 : Int) else 0) ≠ 0) : a < b := by split at h <;> simp_all
theorem le_of {a b : Int} (h : (if a ≤ b then (1 : Int) else 0) ≠ 0) : a ≤ b := by split at h <;> simp_all

theorem takeS_ok {ρ : Env} {σ : Sig} {pc : List E} (hp : PC ρ pc) (s : Nat) (i : E) : ∀ (l : List V) (c n : Nat) (r : List V) (cs : List Value), takeS pc s i l c n = some r → cellsL ρ σ l = some cs →
    0 ≤ i.n ρ ∧ c + s * (i.n ρ).toNat + n ≤ cs.length ∧ cellsL ρ σ r = some ((cs.drop (c + s * (i.n ρ).toNat)).take n)
  | [], c, n, r, cs, h, hc => by simp [takeS] at h
  | x :: xs, c, n, r, cs, h, hc => by
    obtain ⟨a, b, h1, h2, rfl⟩ := cellsL_cons hc
    have skip : ∀ k, x.nc = some k → k ≤ c → takeS pc s i xs (c - k) n = some r → 0 ≤ i.n ρ ∧ c + s * (i.n ρ).toNat + n ≤ (a ++ b).length ∧ cellsL ρ σ r = some (((a ++ b).drop (c + s * (i.n ρ).toNat)).take n) := by
      intro k hk hkc h
      have hl := V.nc_cells ρ σ x k a hk h1
      obtain ⟨h3, h4, h5⟩ := takeS_ok hp s i xs (c - k) n r b h h2
      refine ⟨h3, by simp only [List.length_append]; omega, ?_⟩
      rw [h5, List.drop_append, List.drop_eq_nil_of_le (as := a) (i := c + s * (i.n ρ).toNat) (by omega), hl, List.nil_append]
      congr 3
      omega
    cases x
    case arr e ks rows =>
      simp only [takeS] at h
      split at h
      · rename_i hcond
        obtain ⟨rfl, hlt, hn, hk1, hk2⟩ := hcond
        cases h
        have hb1 := known_n hp hk1
        have hb2 := known_n hp hk2
        rw [mkB_n, E.n_c] at hb1
        rw [mkB_n] at hb2
        have hb1 := le_of hb1
        have hb2 := lt_of hb2
        simp only [V.cells, natOf] at h1
        rw [if_pos (by omega)] at h1
        simp only [Option.map_some, Option.some.injEq] at h1
        subst h1
        have hrow : (i.n ρ).toNat < (rows.n ρ).toNat := by omega
        have hle : c + ks.length * (i.n ρ).toNat + n ≤ (rows.n ρ).toNat * ks.length := by
          have h5 : ((i.n ρ).toNat + 1) * ks.length ≤ (rows.n ρ).toNat * ks.length := Nat.mul_le_mul_right _ hrow
          rw [Nat.add_mul, Nat.mul_comm (i.n ρ).toNat] at h5
          omega
        refine ⟨hb1, by simp only [List.length_append, arrCells_length]; omega, ?_⟩
        rw [rowPart_cells ρ σ e ks i c n hb1 hlt, List.drop_append_of_le_length (by rw [arrCells_length]; omega), List.take_append_of_le_length (by simp only [List.length_drop, arrCells_length]; omega),
          arrCells_part _ _ _ _ _ hle]
        congr 1
        apply List.map_congr_left
        intro j _
        congr 1
        rw [Nat.mul_comm]
        omega
      · split at h
        · rename_i k hk
          split at h
          · rename_i hkc; exact skip k hk hkc h
          · cases h
        · cases h
    all_goals
      simp only [takeS] at h
      split at h
      · rename_i k hk
        split at h
        · rename_i hkc; exact skip k hk hkc h
        · cases h
      · cases h

/-! ### Put -/
def toE (k : CK) (v : V) : Option E := match k, v with
  | .int k, .int k' e => if k = k' then some e else none
  | .bool, .bool e => some e
  | _, _ => none
theorem toE_cells {ρ : Env} {σ : Sig} {k : CK} {v : V} {e : E} (h : toE k v = some e) : v.cells ρ σ = some [k.mk (e.n ρ)] := by
  unfold toE at h
  split at h
  · split at h
    · rename_i hk; cases h; subst hk; rfl
    · cases h
  · cases h; rfl
  · cases h
def mkSet (a i : E) (col : Nat) (x : E) : E := match a with
  | .set a' i' col' _ => if i = i' ∧ col = col' then .set a' i col x else .set a i col x
  | a => .set a i col x
theorem mkSet_a (ρ : Env) (a i : E) (col : Nat) (x : E) : (mkSet a i col x).a ρ = (E.set a i col x).a ρ := by
  unfold mkSet
  split
  · split
    · rename_i h
      obtain ⟨rfl, rfl⟩ := h
      funext r k
      simp only [E.a_set]
      split <;> rfl
    · rfl
  · rfl
/-- Cells of row i, from 'col' on, set one by one. -/
def setsS (ks : List CK) (i : E) : E → Nat → List V → Option E
  | a, _, [] => some a
  | a, col, v :: vs => match toE (ks.getD col .bool) v with
    | some e => setsS ks i (mkSet a i col e) (col + 1) vs
    | none => none

theorem take_set_self {α : Type} (L : List α) (q : Nat) (x : α) : (L.set q x).take q = L.take q := by
  apply List.ext_getElem?
  intro j
  simp only [List.getElem?_take]
  split
  · rw [List.getElem?_set_ne (by omega)]
  · rfl
theorem arrCells_set (f : Int → Nat → Int) (ks : List CK) (N r col : Nat) (x : Int) (hc : col < ks.length) (_hr : r < N) :
    arrCells (fun r' k => if r' = (r : Int) ∧ k = col then x else f r' k) ks N = (arrCells f ks N).set (r * ks.length + col) ((ks.getD col .bool).mk x) := by
  apply List.ext_getElem?
  intro p
  rw [List.getElem?_set, arrCells_length]
  by_cases hp : p < N * ks.length
  · rw [arrCells_get _ _ _ _ hp, arrCells_get _ _ _ _ hp]
    by_cases he : r * ks.length + col = p
    · subst he
      have e1 : (r * ks.length + col) % ks.length = col := by rw [Nat.mul_comm, Nat.mul_add_mod]; exact Nat.mod_eq_of_lt hc
      have e2 : (r * ks.length + col) / ks.length = r := by rw [Nat.mul_comm, Nat.mul_add_div (by omega), Nat.div_eq_of_lt hc, Nat.add_zero]
      simp only [arrCell, e1, e2, if_true, hp, and_self]
    · rw [if_neg he]
      simp only [arrCell]
      rw [if_neg]
      rintro ⟨h1, h2⟩
      have h1' : p / ks.length = r := by omega
      apply he
      rw [← h1', ← h2, Nat.mul_comm]
      exact Nat.div_add_mod p ks.length
  · have h3 : ∀ g, (arrCells g ks N)[p]? = none := fun g => List.getElem?_eq_none (by rw [arrCells_length]; omega)
    rw [h3, h3]
    split <;> simp_all

theorem setsS_ok {ρ : Env} {σ : Sig} (ks : List CK) (i : E) (N : Nat) (hi : 0 ≤ i.n ρ) (hiN : (i.n ρ).toNat < N) : ∀ (vs : List V) (a : E) (col : Nat) (r : E) (ws : List Value),
    setsS ks i a col vs = some r → cellsL ρ σ vs = some ws → col + vs.length ≤ ks.length →
    ws.length = vs.length ∧ arrCells (r.a ρ) ks N = (arrCells (a.a ρ) ks N).take ((i.n ρ).toNat * ks.length + col) ++ ws ++ (arrCells (a.a ρ) ks N).drop ((i.n ρ).toNat * ks.length + col + ws.length)
  | [], a, col, r, ws, h, hw, hl => by
    simp only [setsS, Option.some.injEq] at h
    simp only [cellsL, Option.some.injEq] at hw
    subst h; subst hw
    simp
  | v :: vs, a, col, r, ws, h, hw, hl => by
    obtain ⟨x, ys, h1, h2, rfl⟩ := cellsL_cons hw
    simp only [setsS] at h
    split at h
    · rename_i e he
      rw [toE_cells he] at h1
      cases h1
      simp only [List.length_cons] at hl
      obtain ⟨h3, h4⟩ := setsS_ok ks i N hi hiN vs _ (col + 1) r ys h h2 (by omega)
      refine ⟨by simp [h3], ?_⟩
      have hrow : (E.set a i col e).a ρ = fun r' k => if r' = (((i.n ρ).toNat : Nat) : Int) ∧ k = col then e.n ρ else a.a ρ r' k := by
        rw [E.a_set, Int.toNat_of_nonneg hi]
      rw [show (i.n ρ).toNat * ks.length + (col + 1) = (i.n ρ).toNat * ks.length + col + 1 by omega, mkSet_a, hrow, arrCells_set (a.a ρ) ks N _ col (e.n ρ) (by omega) hiN] at h4
      have hin : (i.n ρ).toNat * ks.length + col < (arrCells (a.a ρ) ks N).length := by
        rw [arrCells_length]
        have h5 : ((i.n ρ).toNat + 1) * ks.length ≤ N * ks.length := Nat.mul_le_mul_right _ hiN
        rw [Nat.add_mul] at h5
        omega
      rw [h4]
      generalize (arrCells (a.a ρ) ks N) = L at *
      generalize (i.n ρ).toNat * ks.length + col = q at *
      have e1 : (L.set q ((ks.getD col .bool).mk (e.n ρ))).take (q + 1) = L.take q ++ [(ks.getD col .bool).mk (e.n ρ)] := by
        rw [List.take_succ_eq_append_getElem (by simpa using hin), take_set_self]
        simp
      have e2 : (L.set q ((ks.getD col .bool).mk (e.n ρ))).drop (q + 1 + ys.length) = L.drop (q + 1 + ys.length) := by
        apply List.ext_getElem?
        intro j
        simp only [List.getElem?_drop]
        rw [List.getElem?_set_ne (by omega)]
      rw [e1, e2]
      simp only [List.append_assoc, List.singleton_append, List.length_cons, List.cons_append, List.nil_append, List.length_append, List.length_nil]
      congr 4
      omega
    · cases h
end Go.SX
