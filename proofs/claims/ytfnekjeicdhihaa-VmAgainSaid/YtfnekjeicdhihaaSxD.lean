/- A symbolic executor, part D: cells put into a row. -/
import Derived.Test.YtfnekjeicdhihaaSxC
namespace Go.SX

def dropC : List V → Nat → Option (List V)
  | [], n => if n = 0 then some [] else none
  | x :: xs, n => if n = 0 then some (x :: xs) else match x.nc with
    | some k => if k ≤ n then dropC xs (n - k) else match x with
      | .arr a ks _ => some (arrPart a ks n (k - n) ++ xs)
      | _ => none
    | none => none
theorem dropC_ok {ρ : Env} {σ : Sig} : ∀ (l : List V) (n : Nat) (r : List V) (cs : List Value), dropC l n = some r → cellsL ρ σ l = some cs →
    n ≤ cs.length ∧ cellsL ρ σ r = some (cs.drop n)
  | [], n, r, cs, h, hc => by
    simp only [dropC] at h
    split at h
    · rename_i h0; cases h; subst h0; simpa using hc
    · cases h
  | x :: xs, n, r, cs, h, hc => by
    have hc0 := hc
    obtain ⟨a, b, h1, h2, rfl⟩ := cellsL_cons hc
    simp only [dropC] at h
    split at h
    · rename_i h0; cases h; subst h0; simpa using hc0
    · split at h
      · rename_i k hk
        have hl := V.nc_cells ρ σ x k a hk h1
        split at h
        · rename_i hkn
          obtain ⟨h3, h4⟩ := dropC_ok xs (n - k) r b h h2
          refine ⟨by simp only [List.length_append]; omega, ?_⟩
          rw [h4, List.drop_append, List.drop_eq_nil_of_le (as := a) (i := n) (by omega), hl, List.nil_append]
        · rename_i hkn
          split at h
          · rename_i e ks rows
            cases h
            rw [cellsL_append_some (arrPart_cells ρ σ e ks n (k - n)) h2]
            simp only [V.cells, Option.map_eq_some_iff] at h1
            obtain ⟨N, hN, rfl⟩ := h1
            rw [arrCells_length] at hl
            refine ⟨by simp only [List.length_append, arrCells_length]; omega, ?_⟩
            rw [← arrCells_part _ ks N n (k - n) (by omega), List.drop_append_of_le_length (by rw [arrCells_length]; omega), List.take_of_length_le (by simp only [List.length_drop, arrCells_length]; omega)]
          · cases h
      · cases h

/-- n cells are put at cell c. -/
def putC (pc : List E) : List V → Nat → List V → Nat → Option (List V)
  | [], _, _, n => if n = 0 then some [] else none
  | x :: xs, c, vs, n => if n = 0 then some (x :: xs) else match x with
    | .arr a ks rows => match (V.arr a ks rows).nc with
      | some k => if k ≤ c then (putC pc xs (c - k) vs n).map (V.arr a ks rows :: ·)
          else if c % ks.length + n ≤ ks.length ∧ vs.length = n ∧ ¬(c = 0 ∧ n = k) then (setsS ks (.c (c / ks.length : Nat)) a (c % ks.length) vs).map fun a' => .arr a' ks rows :: xs
          else if c = 0 then (dropC (V.arr a ks rows :: xs) n).map (vs ++ ·) else none
      | none => if c % ks.length + n ≤ ks.length ∧ vs.length = n ∧ known pc (mkB .lt (.c (c / ks.length : Nat)) rows) = true then (setsS ks (.c (c / ks.length : Nat)) a (c % ks.length) vs).map fun a' => .arr a' ks rows :: xs
          else none
    | x => match x.nc with
      | some k => if k ≤ c then (putC pc xs (c - k) vs n).map (x :: ·)
          else if c = 0 then (dropC (x :: xs) n).map (vs ++ ·) else none
      | none => none

theorem splice {α : Type} (a b ws : List α) (q n : Nat) (h : q + n ≤ a.length) : (a.take q ++ ws ++ a.drop (q + n)) ++ b = (a ++ b).take q ++ ws ++ (a ++ b).drop (q + n) := by
  rw [List.take_append_of_le_length (by omega), List.drop_append_of_le_length h]
  simp only [List.append_assoc]

theorem putC_ok {ρ : Env} {σ : Sig} {pc : List E} (hp : PC ρ pc) : ∀ (l : List V) (c : Nat) (vs : List V) (n : Nat) (r : List V) (cs ws : List Value), putC pc l c vs n = some r → cellsL ρ σ l = some cs → cellsL ρ σ vs = some ws → ws.length = n →
    (n = 0 ∨ c + n ≤ cs.length) ∧ cellsL ρ σ r = some (cs.take c ++ ws ++ cs.drop (c + n))
  | [], c, vs, n, r, cs, ws, h, hc, hv, hn => by
    simp only [putC] at h
    split at h
    · rename_i h0; cases h; subst h0
      have : ws = [] := List.length_eq_zero_iff.1 hn
      subst this
      simp only [cellsL, Option.some.injEq] at hc
      subst hc
      simp [cellsL]
    · cases h
  | x :: xs, c, vs, n, r, cs, ws, h, hc, hv, hn => by
    have hc0 := hc
    obtain ⟨a, b, h1, h2, rfl⟩ := cellsL_cons hc
    have skip : ∀ k, x.nc = some k → k ≤ c → (putC pc xs (c - k) vs n).map (x :: ·) = some r → (n = 0 ∨ c + n ≤ (a ++ b).length) ∧ cellsL ρ σ r = some ((a ++ b).take c ++ ws ++ (a ++ b).drop (c + n)) := by
      intro k hk hkc h
      have hl := V.nc_cells ρ σ x k a hk h1
      simp only [Option.map_eq_some_iff] at h
      obtain ⟨r', hr', rfl⟩ := h
      obtain ⟨h3, h4⟩ := putC_ok hp xs (c - k) vs n r' b ws hr' h2 hv hn
      refine ⟨by simp only [List.length_append]; omega, ?_⟩
      rw [cellsL_cons_some h1 h4]
      simp only [List.take_append, List.drop_append, hl]
      rw [List.take_of_length_le (l := a) (i := c) (by omega), List.drop_eq_nil_of_le (as := a) (i := c + n) (by omega), List.nil_append, show c + n - k = c - k + n by omega]
      simp only [List.append_assoc]
    have front : c = 0 → (dropC (x :: xs) n).map (vs ++ ·) = some r → (n = 0 ∨ c + n ≤ (a ++ b).length) ∧ cellsL ρ σ r = some ((a ++ b).take c ++ ws ++ (a ++ b).drop (c + n)) := by
      intro hc0' hd
      subst hc0'
      simp only [Option.map_eq_some_iff] at hd
      obtain ⟨r', hr', rfl⟩ := hd
      obtain ⟨h3, h4⟩ := dropC_ok _ n r' _ hr' hc0
      refine ⟨by right; omega, ?_⟩
      rw [cellsL_append_some hv h4]
      simp
    by_cases hn0 : n = 0
    · subst hn0
      have hws : ws = [] := List.length_eq_zero_iff.1 hn
      subst hws
      have hr : r = x :: xs := by simpa [putC] using h.symm
      subst hr
      simpa using hc0
    · cases x
      case arr e ks rows =>
        have sets : ∀ N, 0 ≤ rows.n ρ → N = (rows.n ρ).toNat → c / ks.length < N → c % ks.length + n ≤ ks.length → vs.length = n → (setsS ks (.c (c / ks.length : Nat)) e (c % ks.length) vs).map (fun a' => V.arr a' ks rows :: xs) = some r →
            (n = 0 ∨ c + n ≤ (a ++ b).length) ∧ cellsL ρ σ r = some ((a ++ b).take c ++ ws ++ (a ++ b).drop (c + n)) := by
          intro N h0 hN hrow hlt hvn h
          simp only [Option.map_eq_some_iff] at h
          obtain ⟨a', ha', rfl⟩ := h
          have hcd : c / ks.length * ks.length + c % ks.length = c := by rw [Nat.mul_comm]; exact Nat.div_add_mod c ks.length
          obtain ⟨h3, h4⟩ := setsS_ok (ρ := ρ) (σ := σ) ks (.c (c / ks.length : Nat)) N (by rw [E.n_c]; exact Int.natCast_nonneg _) (by rw [E.n_c, Int.toNat_natCast]; exact hrow) vs e (c % ks.length) a' ws ha' hv (by omega)
          rw [E.n_c, Int.toNat_natCast, hcd, hn] at h4
          simp only [V.cells, natOf, if_pos h0, Option.map_some, Option.some.injEq] at h1
          subst h1
          subst hN
          have hle : c + n ≤ (arrCells (e.a ρ) ks (rows.n ρ).toNat).length := by
            rw [arrCells_length]
            have h5 : (c / ks.length + 1) * ks.length ≤ (rows.n ρ).toNat * ks.length := Nat.mul_le_mul_right _ hrow
            rw [Nat.add_mul] at h5
            omega
          refine ⟨by right; simp only [List.length_append]; omega, ?_⟩
          have h6 : (V.arr a' ks rows).cells ρ σ = some (arrCells (a'.a ρ) ks (rows.n ρ).toNat) := by simp only [V.cells, natOf, if_pos h0, Option.map_some]
          rw [cellsL_cons_some h6 h2, h4, splice _ _ _ _ _ hle]
        simp only [putC, if_neg hn0] at h
        split at h
        · rename_i k hk
          split at h
          · rename_i hkc; exact skip k hk hkc h
          · rename_i hkc
            split at h
            · rename_i hcond
              have hl := V.nc_cells ρ σ _ k a hk h1
              simp only [V.cells, natOf] at h1
              split at h1
              · rename_i h0
                refine sets _ h0 rfl ?_ hcond.1 hcond.2.1 h
                simp only [Option.map_some, Option.some.injEq] at h1
                subst h1
                rw [arrCells_length] at hl
                rw [Nat.div_lt_iff_lt_mul (by omega)]
                omega
              · cases h1
            · split at h
              · rename_i hc0'; exact front hc0' h
              · cases h
        · rename_i hk
          split at h
          · rename_i hcond
            have hb := known_n hp hcond.2.2
            rw [mkB_n, E.n_c] at hb
            have hb := lt_of hb
            have hq : (0 : Int) ≤ (c / ks.length : Nat) := Int.natCast_nonneg _
            exact sets _ (by omega) rfl (by omega) hcond.1 hcond.2.1 h
          · cases h
      all_goals
        simp only [putC, if_neg hn0] at h
        split at h
        · rename_i k hk
          split at h
          · rename_i hkc; exact skip k hk hkc h
          · split at h
            · rename_i hc0'; exact front hc0' h
            · cases h
        · cases h

/-- n cells are put into row number i. -/
def putS (pc : List E) (s : Nat) (i : E) : List V → Nat → List V → Nat → Option (List V)
  | [], _, _, _ => none
  | x :: xs, c, vs, n => match x with
    | .arr a ks rows => if ks.length = s ∧ c + n ≤ s ∧ 0 < n ∧ vs.length = n ∧ known pc (mkB .le (.c 0) i) = true ∧ known pc (mkB .lt i rows) = true then (setsS ks i a c vs).map fun a' => .arr a' ks rows :: xs
        else match (V.arr a ks rows).nc with
          | some k => if k ≤ c then (putS pc s i xs (c - k) vs n).map (V.arr a ks rows :: ·) else none
          | none => none
    | x => match x.nc with
      | some k => if k ≤ c then (putS pc s i xs (c - k) vs n).map (x :: ·) else none
      | none => none

theorem putS_ok {ρ : Env} {σ : Sig} {pc : List E} (hp : PC ρ pc) (s : Nat) (i : E) : ∀ (l : List V) (c : Nat) (vs : List V) (n : Nat) (r : List V) (cs ws : List Value), putS pc s i l c vs n = some r → cellsL ρ σ l = some cs → cellsL ρ σ vs = some ws → ws.length = n →
    0 ≤ i.n ρ ∧ c + s * (i.n ρ).toNat + n ≤ cs.length ∧ cellsL ρ σ r = some (cs.take (c + s * (i.n ρ).toNat) ++ ws ++ cs.drop (c + s * (i.n ρ).toNat + n))
  | [], c, vs, n, r, cs, ws, h, hc, hv, hn => by simp [putS] at h
  | x :: xs, c, vs, n, r, cs, ws, h, hc, hv, hn => by
    obtain ⟨a, b, h1, h2, rfl⟩ := cellsL_cons hc
    have skip : ∀ k, x.nc = some k → k ≤ c → (putS pc s i xs (c - k) vs n).map (x :: ·) = some r →
        0 ≤ i.n ρ ∧ c + s * (i.n ρ).toNat + n ≤ (a ++ b).length ∧ cellsL ρ σ r = some ((a ++ b).take (c + s * (i.n ρ).toNat) ++ ws ++ (a ++ b).drop (c + s * (i.n ρ).toNat + n)) := by
      intro k hk hkc h
      have hl := V.nc_cells ρ σ x k a hk h1
      simp only [Option.map_eq_some_iff] at h
      obtain ⟨r', hr', rfl⟩ := h
      obtain ⟨h3, h4, h5⟩ := putS_ok hp s i xs (c - k) vs n r' b ws hr' h2 hv hn
      refine ⟨h3, by simp only [List.length_append]; omega, ?_⟩
      rw [cellsL_cons_some h1 h5]
      simp only [List.take_append, List.drop_append, hl]
      rw [List.take_of_length_le (l := a) (i := c + s * (i.n ρ).toNat) (by omega), List.drop_eq_nil_of_le (as := a) (i := c + s * (i.n ρ).toNat + n) (by omega), List.nil_append,
        show c + s * (i.n ρ).toNat + n - k = c - k + s * (i.n ρ).toNat + n by omega, show c + s * (i.n ρ).toNat - k = c - k + s * (i.n ρ).toNat by omega]
      simp only [List.append_assoc]
    cases x
    case arr e ks rows =>
      simp only [putS] at h
      split at h
      · rename_i hcond
        obtain ⟨rfl, hlt, hn0, hvn, hk1, hk2⟩ := hcond
        have hb1 := known_n hp hk1
        have hb2 := known_n hp hk2
        rw [mkB_n, E.n_c] at hb1
        rw [mkB_n] at hb2
        have hb1 := le_of hb1
        have hb2 := lt_of hb2
        simp only [Option.map_eq_some_iff] at h
        obtain ⟨a', ha', rfl⟩ := h
        have h0 : 0 ≤ rows.n ρ := by omega
        obtain ⟨h3, h4⟩ := setsS_ok (ρ := ρ) (σ := σ) ks i (rows.n ρ).toNat hb1 (by omega) vs e c a' ws ha' hv (by omega)
        rw [Nat.mul_comm, Nat.add_comm _ c, hn] at h4
        simp only [V.cells, natOf, if_pos h0, Option.map_some, Option.some.injEq] at h1
        subst h1
        have hle : c + ks.length * (i.n ρ).toNat + n ≤ (arrCells (e.a ρ) ks (rows.n ρ).toNat).length := by
          rw [arrCells_length]
          have h5 : ((i.n ρ).toNat + 1) * ks.length ≤ (rows.n ρ).toNat * ks.length := Nat.mul_le_mul_right _ (by omega)
          rw [Nat.add_mul, Nat.mul_comm (i.n ρ).toNat] at h5
          omega
        refine ⟨hb1, by simp only [List.length_append]; omega, ?_⟩
        have h6 : (V.arr a' ks rows).cells ρ σ = some (arrCells (a'.a ρ) ks (rows.n ρ).toNat) := by simp only [V.cells, natOf, if_pos h0, Option.map_some]
        rw [cellsL_cons_some h6 h2, h4, splice _ _ _ _ _ hle]
      · split at h
        · rename_i k hk
          split at h
          · rename_i hkc; exact skip k hk hkc h
          · cases h
        · cases h
    all_goals
      simp only [putS] at h
      split at h
      · rename_i k hk
        split at h
        · rename_i hkc; exact skip k hk hkc h
        · cases h
      · cases h
end Go.SX
