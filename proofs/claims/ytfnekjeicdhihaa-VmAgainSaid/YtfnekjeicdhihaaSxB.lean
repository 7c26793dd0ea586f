/- A symbolic executor, part B: equality of values, more blocks, rows of cells taken and put. -/
import Derived.Test.YtfnekjeicdhihaaSxA
namespace Go.SX

/-! ### Equality -/
mutual
def V.same : V → V → Bool
  | .int k e, .int k' e' => decide (k = k') && decide (e = e')
  | .bool e, .bool e' => decide (e = e')
  | .ptr b c s i, .ptr b' c' s' i' => b == b' && c == c' && s == s' && decide (i = i')
  | .nilp, .nilp => true
  | .slice b c s i l m, .slice b' c' s' i' l' m' => b == b' && c == c' && s == s' && decide (i = i') && decide (l = l') && decide (m = m')
  | .nils, .nils => true
  | .ms o b l, .ms o' b' l' => o == o' && b == b' && decide (l = l')
  | .fn f cs, .fn f' cs' => f == f' && sameL cs cs'
  | .nilf, .nilf => true
  | .iface t v, .iface t' v' => t == t' && v.same v'
  | .nili, .nili => true
  | .str s, .str s' => decide (s = s')
  | .bs a n, .bs a' n' => decide (a = a') && decide (n = n')
  | .mapr b, .mapr b' => b == b'
  | .nilm, .nilm => true
  | .ov i, .ov i' => i == i'
  | .agg l, .agg l' => sameL l l'
  | .tup l, .tup l' => sameL l l'
  | .arr a ks n, .arr a' ks' n' => decide (a = a') && decide (ks = ks') && decide (n = n')
  | _, _ => false
def sameL : List V → List V → Bool
  | [], [] => true
  | x :: xs, y :: ys => x.same y && sameL xs ys
  | _, _ => false
end
mutual
theorem V.same_eq : ∀ (x y : V), x.same y = true → x = y
  | .int .., y, h | .bool .., y, h | .ms .., y, h | .ptr .., y, h | .nilp, y, h | .slice .., y, h | .nils, y, h | .nilf, y, h | .nili, y, h | .str .., y, h | .bs .., y, h | .mapr .., y, h
  | .nilm, y, h | .ov .., y, h | .arr .., y, h => by
    cases y <;> simp [V.same] at h <;> simp [h]
  | .fn f cs, y, h => by
    cases y <;> simp [V.same] at h
    rw [h.1, sameL_eq _ _ h.2]
  | .iface t v, y, h => by
    cases y <;> simp [V.same] at h
    rw [h.1, V.same_eq _ _ h.2]
  | .agg l, y, h => by
    cases y <;> simp [V.same] at h
    rw [sameL_eq _ _ h]
  | .tup l, y, h => by
    cases y <;> simp [V.same] at h
    rw [sameL_eq _ _ h]
theorem sameL_eq : ∀ (x y : List V), sameL x y = true → x = y
  | [], y, h => by cases y <;> simp [sameL] at h ⊢
  | x :: xs, y, h => by
    cases y <;> simp [sameL] at h
    rw [V.same_eq _ _ h.1, sameL_eq _ _ h.2]
end

/-! ### More blocks -/
theorem sig_ext {σ τ : Sig} {b : Nat} {x : Nat × Nat} (h : σ[b]? = some x) : (σ ++ τ)[b]? = some x := by
  rw [List.getElem?_append_left (List.getElem?_eq_some_iff.1 h).1, h]
theorem addr_ext {ρ : Env} {σ : Sig} (τ : Sig) {b c s : Nat} {i : E} {a : Addr} (h : addrOf ρ σ b c s i = some a) : addrOf ρ (σ ++ τ) b c s i = some a := by
  unfold addrOf at *
  split at h
  · rename_i hb; rw [sig_ext hb]; exact h
  · cases h
theorem ms_ext {ρ : Env} {σ : Sig} (τ : Sig) {o b : Nat} {len : E} {v : Value} (h : msOf ρ σ o b len = some v) : msOf ρ (σ ++ τ) o b len = some v := by
  unfold msOf at *
  split at h
  · rename_i h1 h2; rw [sig_ext h2]; simp only [h1]; exact h
  · rename_i h1 h2; rw [sig_ext h2]; simp only [h1]; exact h
  · cases h
theorem cap_ext {ρ : Env} {σ : Sig} (τ : Sig) {m : Cap} {n : Nat} (h : capOf ρ σ m = some n) : capOf ρ (σ ++ τ) m = some n := by
  cases m with
  | e x => exact h
  | s i =>
    simp only [capOf, Option.map_eq_some_iff] at *
    obtain ⟨x, hx, rfl⟩ := h
    exact ⟨x, sig_ext hx, rfl⟩
mutual
theorem V.val_ext {ρ : Env} {σ : Sig} (τ : Sig) : ∀ (x : V) (v : Value), x.val ρ σ = some v → x.val ρ (σ ++ τ) = some v
  | .int .., v, h | .bool .., v, h | .nilp, v, h | .nils, v, h | .nilf, v, h | .nili, v, h | .str .., v, h | .bs .., v, h | .nilm, v, h | .ov .., v, h => by
    simpa [V.val] using h
  | .arr .., v, h => by simp [V.val] at h
  | .ms o b l, v, h => by simp only [V.val] at *; exact ms_ext τ h
  | .ptr b c s i, v, h => by
    simp only [V.val, Option.map_eq_some_iff] at *
    obtain ⟨a, ha, rfl⟩ := h
    exact ⟨a, addr_ext τ ha, rfl⟩
  | .slice b c s i l m, v, h => by
    simp only [V.val] at *
    split at h
    · rename_i h1 h2 h3; rw [addr_ext τ h1, h2, cap_ext τ h3]; exact h
    · cases h
  | .fn f cs, v, h => by
    simp only [V.val, Option.map_eq_some_iff] at *
    obtain ⟨a, ha, rfl⟩ := h
    exact ⟨a, valL_ext τ _ _ ha, rfl⟩
  | .iface t x, v, h => by
    simp only [V.val, Option.map_eq_some_iff] at *
    obtain ⟨a, ha, rfl⟩ := h
    exact ⟨a, V.val_ext τ _ _ ha, rfl⟩
  | .mapr b, v, h => by
    simp only [V.val, Option.map_eq_some_iff] at *
    obtain ⟨a, ha, rfl⟩ := h
    exact ⟨a, sig_ext ha, rfl⟩
  | .agg l, v, h => by
    simp only [V.val, Option.map_eq_some_iff] at *
    obtain ⟨a, ha, rfl⟩ := h
    exact ⟨a, cellsL_ext τ _ _ ha, rfl⟩
  | .tup l, v, h => by
    simp only [V.val, Option.map_eq_some_iff] at *
    obtain ⟨a, ha, rfl⟩ := h
    exact ⟨a, valL_ext τ _ _ ha, rfl⟩
theorem valL_ext {ρ : Env} {σ : Sig} (τ : Sig) : ∀ (l : List V) (vs : List Value), valL ρ σ l = some vs → valL ρ (σ ++ τ) l = some vs
  | [], vs, h => by simpa [valL] using h
  | x :: xs, vs, h => by
    simp only [valL] at *
    split at h
    · rename_i h1 h2; rw [V.val_ext τ _ _ h1, valL_ext τ _ _ h2]; exact h
    · cases h
theorem cellsL_ext {ρ : Env} {σ : Sig} (τ : Sig) : ∀ (l : List V) (vs : List Value), cellsL ρ σ l = some vs → cellsL ρ (σ ++ τ) l = some vs
  | [], vs, h => by simpa [cellsL] using h
  | x :: xs, vs, h => by
    simp only [cellsL] at *
    split at h
    · rename_i h1 h2; rw [V.cells_ext τ _ _ h1, cellsL_ext τ _ _ h2]; exact h
    · cases h
theorem V.cells_ext {ρ : Env} {σ : Sig} (τ : Sig) : ∀ (x : V) (v : List Value), x.cells ρ σ = some v → x.cells ρ (σ ++ τ) = some v
  | .int .., v, h | .bool .., v, h | .nilp, v, h | .nils, v, h | .nilf, v, h | .nili, v, h | .str .., v, h | .bs .., v, h | .nilm, v, h | .ov .., v, h | .arr .., v, h => by
    simpa [V.cells] using h
  | .tup .., v, h => by simp [V.cells] at h
  | .ms o b l, v, h => by
    simp only [V.cells, Option.map_eq_some_iff] at *
    obtain ⟨a, ha, rfl⟩ := h
    exact ⟨a, ms_ext τ ha, rfl⟩
  | .ptr b c s i, v, h => by
    simp only [V.cells, Option.map_eq_some_iff] at *
    obtain ⟨a, ha, rfl⟩ := h
    exact ⟨a, addr_ext τ ha, rfl⟩
  | .slice b c s i l m, v, h => by
    simp only [V.cells] at *
    split at h
    · rename_i h1 h2 h3; rw [addr_ext τ h1, h2, cap_ext τ h3]; exact h
    · cases h
  | .fn f cs, v, h => by
    simp only [V.cells, Option.map_eq_some_iff] at *
    obtain ⟨a, ha, rfl⟩ := h
    exact ⟨a, valL_ext τ _ _ ha, rfl⟩
  | .iface t x, v, h => by
    simp only [V.cells, Option.map_eq_some_iff] at *
    obtain ⟨a, ha, rfl⟩ := h
    exact ⟨a, V.val_ext τ _ _ ha, rfl⟩
  | .mapr b, v, h => by
    simp only [V.cells, Option.map_eq_some_iff] at *
    obtain ⟨a, ha, rfl⟩ := h
    exact ⟨a, sig_ext ha, rfl⟩
  | .agg l, v, h => by
    simp only [V.cells] at *
    exact cellsL_ext τ _ _ h
end

/-! ### Cells -/
theorem cellsL_append (ρ : Env) (σ : Sig) (l m : List V) : cellsL ρ σ (l ++ m) = match cellsL ρ σ l, cellsL ρ σ m with
    | some a, some b => some (a ++ b)
    | _, _ => none := by
  induction l with
  | nil => simp only [List.nil_append, cellsL]; cases cellsL ρ σ m <;> simp
  | cons x l ih =>
    simp only [List.cons_append, cellsL, ih]
    cases x.cells ρ σ <;> cases cellsL ρ σ l <;> cases cellsL ρ σ m <;> simp
theorem cellsL_append_some {ρ : Env} {σ : Sig} {l m : List V} {a b : List Value} (h1 : cellsL ρ σ l = some a) (h2 : cellsL ρ σ m = some b) : cellsL ρ σ (l ++ m) = some (a ++ b) := by
  rw [cellsL_append, h1, h2]
theorem cellsL_cons {ρ : Env} {σ : Sig} {x : V} {l : List V} {cs : List Value} (h : cellsL ρ σ (x :: l) = some cs) : ∃ a b, x.cells ρ σ = some a ∧ cellsL ρ σ l = some b ∧ cs = a ++ b := by
  simp only [cellsL] at h
  split at h
  · rename_i a b h1 h2; exact ⟨a, b, h1, h2, by simpa using h.symm⟩
  · cases h
theorem cellsL_cons_some {ρ : Env} {σ : Sig} {x : V} {l : List V} {a b : List Value} (h1 : x.cells ρ σ = some a) (h2 : cellsL ρ σ l = some b) : cellsL ρ σ (x :: l) = some (a ++ b) := by
  simp only [cellsL, h1, h2]

mutual
def V.flat : V → List V
  | .agg l => flatL l
  | x => [x]
def flatL : List V → List V
  | [] => []
  | x :: xs => x.flat ++ flatL xs
end
mutual
theorem V.flat_cells (ρ : Env) (σ : Sig) : ∀ (x : V) (cs : List Value), x.cells ρ σ = some cs → cellsL ρ σ x.flat = some cs
  | .agg l, cs, h => by simp only [V.flat]; simp only [V.cells] at h; exact flatL_cells ρ σ l cs h
  | .int .., cs, h | .bool .., cs, h | .ms .., cs, h | .ptr .., cs, h | .nilp, cs, h | .slice .., cs, h | .nils, cs, h | .fn .., cs, h | .nilf, cs, h | .iface .., cs, h | .nili, cs, h
  | .str .., cs, h | .bs .., cs, h | .mapr .., cs, h | .nilm, cs, h | .ov .., cs, h | .tup .., cs, h | .arr .., cs, h => by
    simp only [V.flat]
    have := cellsL_cons_some (l := []) h (by rfl)
    simpa using this
theorem flatL_cells (ρ : Env) (σ : Sig) : ∀ (l : List V) (cs : List Value), cellsL ρ σ l = some cs → cellsL ρ σ (flatL l) = some cs
  | [], cs, h => by simpa [flatL] using h
  | x :: xs, cs, h => by
    obtain ⟨a, b, h1, h2, rfl⟩ := cellsL_cons h
    simp only [flatL]
    exact cellsL_append_some (V.flat_cells ρ σ x a h1) (flatL_cells ρ σ xs b h2)
end

mutual
def V.nc : V → Option Nat
  | .agg l => ncL l
  | .tup _ => none
  | .arr _ ks (.c n) => if 0 ≤ n then some (n.toNat * ks.length) else none
  | .arr _ _ _ => none
  | _ => some 1
def ncL : List V → Option Nat
  | [] => some 0
  | x :: xs => match x.nc, ncL xs with
    | some a, some b => some (a + b)
    | _, _ => none
end
theorem arrCells_length (f : Int → Nat → Int) (ks : List CK) (n : Nat) : (arrCells f ks n).length = n * ks.length := by simp [arrCells]
theorem arrCells_get (f : Int → Nat → Int) (ks : List CK) (n p : Nat) (h : p < n * ks.length) : (arrCells f ks n)[p]? = some (arrCell f ks p) := by
  simp [arrCells, h]
mutual
theorem V.nc_cells (ρ : Env) (σ : Sig) : ∀ (x : V) (k : Nat) (cs : List Value), x.nc = some k → x.cells ρ σ = some cs → cs.length = k
  | .agg l, k, cs, h, hc => by
    simp only [V.nc] at h; simp only [V.cells] at hc
    exact ncL_cells ρ σ l k cs h hc
  | .tup _, k, cs, h, hc => by simp [V.nc] at h
  | .arr a ks n, k, cs, h, hc => by
    cases n <;> simp [V.nc] at h
    rename_i n
    simp only [V.cells, natOf, E.n_c, h.1, if_true, Option.map_some, Option.some.injEq] at hc
    subst hc
    rw [arrCells_length, ← h.2]
  | .int .., k, cs, h, hc | .bool .., k, cs, h, hc | .nilp, k, cs, h, hc | .nils, k, cs, h, hc | .nilf, k, cs, h, hc | .nili, k, cs, h, hc
  | .str .., k, cs, h, hc | .nilm, k, cs, h, hc => by
    simp [V.nc] at h; simp [V.cells] at hc; subst hc; simp [h]
  | .bs .., k, cs, h, hc | .ms .., k, cs, h, hc | .ptr .., k, cs, h, hc | .fn .., k, cs, h, hc | .iface .., k, cs, h, hc | .mapr .., k, cs, h, hc => by
    simp only [V.nc, Option.some.injEq] at h; simp only [V.cells, Option.map_eq_some_iff] at hc; obtain ⟨_, _, rfl⟩ := hc; simp [h]
  | .ov .., k, cs, h, hc => by
    simp only [V.nc, Option.some.injEq] at h; simp only [V.cells] at hc; split at hc <;> cases hc; simp [h]
  | .slice .., k, cs, h, hc => by
    simp only [V.nc, Option.some.injEq] at h; simp only [V.cells] at hc; split at hc <;> cases hc; simp [h]
theorem ncL_cells (ρ : Env) (σ : Sig) : ∀ (l : List V) (k : Nat) (cs : List Value), ncL l = some k → cellsL ρ σ l = some cs → cs.length = k
  | [], k, cs, h, hc => by simp [ncL] at h; simp [cellsL] at hc; subst hc; simp [h]
  | x :: xs, k, cs, h, hc => by
    obtain ⟨a, b, h1, h2, rfl⟩ := cellsL_cons hc
    simp only [ncL] at h
    split at h
    · rename_i p q h3 h4
      cases h
      rw [List.length_append, V.nc_cells ρ σ x p a h3 h1, ncL_cells ρ σ xs q b h4 h2]
    · cases h
end

/-! ### What is known -/
def known (pc : List E) (e : E) : Bool := match e with
  | .c n => n != 0
  | e => decide (e ∈ pc)
def PC (ρ : Env) (pc : List E) : Prop := ∀ e ∈ pc, e.n ρ ≠ 0
theorem known_n {ρ : Env} {pc : List E} {e : E} (hp : PC ρ pc) (h : known pc e = true) : e.n ρ ≠ 0 := by
  unfold known at h
  split at h
  · simpa [E.n_c] using h
  · exact hp _ (by simpa using h)

/-! ### A cell of a row -/
def mkGet (a i : E) (col : Nat) : E := match a with
  | .zz => .c 0
  | .set a' i' col' x => if i = i' ∧ col = col' then x else match i, i' with
    | .c m, .c n => if m ≠ n ∨ col ≠ col' then mkGet a' i col else .get a i col
    | _, _ => if col ≠ col' then mkGet a' i col else .get a i col
  | a => .get a i col
theorem mkGet_n (ρ : Env) (a i : E) (col : Nat) : (mkGet a i col).n ρ = a.a ρ (i.n ρ) col := by
  induction a with
  | set a' i' col' x ih _ _ =>
    simp only [mkGet]
    split
    · rename_i h; obtain ⟨rfl, rfl⟩ := h; simp [E.a_set]
    · rename_i h
      split
      · rename_i p q _ _
        split
        · rename_i h2
          rw [ih, E.a_set]
          have hne : ¬ ((E.c p).n ρ = (E.c q).n ρ ∧ col = col') := by
            rintro ⟨h3, h4⟩
            rcases h2 with h2 | h2
            · exact h2 h3
            · exact h2 h4
          simp only [hne, if_false]
        · rfl
      · split
        · rename_i h2
          rw [ih, E.a_set]
          have hne : ¬ (i.n ρ = i'.n ρ ∧ col = col') := fun h3 => h2 h3.2
          simp only [hne, if_false]
        · rfl
  | zz => simp [mkGet, E.n_c, E.a_zz]
  | _ => rfl
def cellV (k : CK) (e : E) : V := match k with
  | .int k => .int k e
  | .bool => .bool e
theorem cellV_cells (ρ : Env) (σ : Sig) (k : CK) (e : E) : (cellV k e).cells ρ σ = some [k.mk (e.n ρ)] := by cases k <;> rfl
/-- Cells c, c + 1, .. of row number i. -/
def rowPart (a : E) (ks : List CK) (i : E) (c n : Nat) : List V := (List.range n).map fun j => cellV (ks.getD (c + j) .bool) (mkGet a i (c + j))
theorem map_cells (ρ : Env) (σ : Sig) (f : Nat → V) (g : Nat → Value) (h : ∀ j, (f j).cells ρ σ = some [g j]) : ∀ l : List Nat, cellsL ρ σ (l.map f) = some (l.map g)
  | [] => rfl
  | j :: l => by
    have := cellsL_cons_some (h j) (map_cells ρ σ f g h l)
    simpa using this
theorem rowPart_cells (ρ : Env) (σ : Sig) (a : E) (ks : List CK) (i : E) (c n : Nat) (hi : 0 ≤ i.n ρ) (hc : c + n ≤ ks.length) :
    cellsL ρ σ (rowPart a ks i c n) = some ((List.range n).map fun j => arrCell (a.a ρ) ks ((i.n ρ).toNat * ks.length + (c + j))) := by
  have := map_cells ρ σ (fun j => cellV (ks.getD (c + j) .bool) (mkGet a i (c + j))) (fun j => (ks.getD (c + j) .bool).mk (a.a ρ (i.n ρ) (c + j)))
    (fun j => by rw [cellV_cells, mkGet_n]) (List.range n)
  rw [rowPart, this]
  congr 1
  apply List.map_congr_left
  intro j hj
  have hj' : c + j < ks.length := by have := List.mem_range.1 hj; omega
  have e1 : ((i.n ρ).toNat * ks.length + (c + j)) % ks.length = c + j := by rw [Nat.mul_comm, Nat.mul_add_mod]; exact Nat.mod_eq_of_lt hj'
  have e2 : ((i.n ρ).toNat * ks.length + (c + j)) / ks.length = (i.n ρ).toNat := by
    rw [Nat.mul_comm, Nat.mul_add_div (by omega), Nat.div_eq_of_lt hj', Nat.add_zero]
  simp only [arrCell, e1, e2, Int.toNat_of_nonneg hi]
/-- Cells p, p + 1, .. of all. -/
def arrPart (a : E) (ks : List CK) (p n : Nat) : List V := (List.range n).map fun j => cellV (ks.getD ((p + j) % ks.length) .bool) (mkGet a (.c ((p + j) / ks.length : Nat)) ((p + j) % ks.length))
theorem arrPart_cells (ρ : Env) (σ : Sig) (a : E) (ks : List CK) (p n : Nat) :
    cellsL ρ σ (arrPart a ks p n) = some ((List.range n).map fun j => arrCell (a.a ρ) ks (p + j)) := by
  exact map_cells ρ σ _ _ (fun j => by rw [cellV_cells, mkGet_n]; rfl) (List.range n)
theorem drop_take_range {α : Type} (f : Nat → α) (N p n : Nat) (h : p + n ≤ N) : (((List.range N).map f).drop p).take n = (List.range n).map fun j => f (p + j) := by
  apply List.ext_getElem?
  intro j
  simp only [List.getElem?_take, List.getElem?_drop, List.getElem?_map]
  by_cases hj : j < n
  · simp [hj, show p + j < N by omega]
  · simp [hj]
theorem arrCells_part (f : Int → Nat → Int) (ks : List CK) (N p n : Nat) (h : p + n ≤ N * ks.length) : ((arrCells f ks N).drop p).take n = (List.range n).map fun j => arrCell f ks (p + j) :=
  drop_take_range _ _ _ _ h
end Go.SX
