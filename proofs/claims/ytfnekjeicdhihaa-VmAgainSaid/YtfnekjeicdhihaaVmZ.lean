/- VmAgain: what is told ahead exists; the law's ways. -/
import Derived.Test.YtfnekjeicdhihaaVmY
import Derived.Test.YtfnekjeicdhihaaSxU
namespace Go.Proofs.Ytfnekjeicdhihaa
open Go.SX

theorem conj_only (op : Int) : ∀ c ∈ conj op, c.only (fun _ => false) (fun i => decide (31 ≤ i ∧ i ≤ 34)) (fun _ => false) = true := by
  intro c hc
  simp only [conj, List.mem_append] at hc
  rcases hc with ((hc | hc) | hc) | hc
  · split at hc <;> simp at hc <;> rcases hc with rfl | rfl <;> rfl
  · split at hc <;> simp at hc <;> rcases hc with rfl | rfl <;> rfl
  · split at hc
    · split at hc <;> simp at hc <;> rcases hc with rfl | rfl <;> rfl
    · simp at hc; subst hc; rfl
  · simp only [List.mem_singleton] at hc
    subst hc; rfl
theorem mayP_of {ρ ρ' : Env} (h3 : ρ'.av 3 = ρ.av 3) {r : Int} (h : MayP ρ r) : MayP ρ' r := by
  obtain ⟨h1, h2, h4⟩ := h
  refine ⟨by rw [h3]; exact h1, by rw [h3]; exact h2, fun c hc => ?_⟩
  rw [h3] at hc
  have := h4 c hc
  rw [E.n] at this ⊢
  rw [E.den_only (ρ := atK ρ r) (ρ' := atK ρ' r) (x := fun _ => false) (p := fun i => decide (31 ≤ i ∧ i ≤ 34)) (q := fun _ => false) (fun e he => by cases he) (fun i hi => ?_) (fun i hi => by cases hi) c (conj_only _ c hc)]
  · exact this
  · simp only [decide_eq_true_eq] at hi
    have : i = 31 ∨ i = 32 ∨ i = 33 ∨ i = 34 := by omega
    rcases this with rfl | rfl | rfl | rfl <;> simp [atK, h3]
theorem chkR_of {ρ ρ' : Env} (h0 : ρ'.iv 0 = ρ.iv 0) (h1 : ρ'.iv 1 = ρ.iv 1) (h3 : ρ'.av 3 = ρ.av 3) {n : Int} (h : ChkR ρ n) : ChkR ρ' n := by
  have hA : AllP ρ' ↔ AllP ρ := ⟨fun h r a b => mayP_of h3.symm (h r a (by rw [h1]; exact b)), fun h r a b => mayP_of h3 (h r a (by rw [← h1]; exact b))⟩
  unfold ChkR at h ⊢
  rw [hA, h0, h1]
  exact h
theorem chkR_some (ρ : Env) : ∃ n, ChkR ρ n := by
  by_cases h0 : ρ.iv 0 < 0
  · exact ⟨2, .inl ⟨rfl, .inl h0⟩⟩
  · by_cases h1 : 256 < ρ.iv 0
    · exact ⟨2, .inl ⟨rfl, .inr (.inl h1)⟩⟩
    · by_cases hA : AllP ρ
      · by_cases h2 : 256 < ρ.iv 1
        · exact ⟨3, .inr (.inl ⟨rfl, by omega, by omega, hA, h2⟩)⟩
        · exact ⟨0, .inr (.inr ⟨rfl, by omega, by omega, hA, by omega⟩)⟩
      · exact ⟨2, .inl ⟨rfl, .inr (.inr hA)⟩⟩

/-- With what is told ahead. -/
def extE (ρ : Env) (n : Int) (b49 b51 : Bool) (ρe : Env) : Env := { iv := fun i => if i = 50 then n else if i = 49 then (if b49 = true then 1 else 0) else if i = 51 then (if b51 = true then 1 else 0) else if 60 ≤ i ∧ i < 75 then ρe.iv (i - 60) else ρ.iv i, av := fun i => if 20 ≤ i ∧ i < 27 then ρe.av (i - 20) else ρ.av i, ov := ρ.ov }
theorem rgEnv_ext (ρ : Env) (n : Int) (b49 b51 : Bool) (ρe : Env) (x y : Value) (m : Int) : rgEnv (extE ρ n b49 b51 ρe) x y m = rgEnv ρ x y m := by
  unfold rgEnv
  congr 1
  · funext i
    by_cases h : i < 3
    · rw [if_pos h, if_pos h]
      show (if i = 50 then n else if i = 49 then _ else if i = 51 then _ else if 60 ≤ i ∧ i < 75 then _ else ρ.iv i) = ρ.iv i
      rw [if_neg (by omega), if_neg (by omega), if_neg (by omega), if_neg (by omega)]
    · rw [if_neg h, if_neg h]
  · funext i
    by_cases h : 3 ≤ i ∧ i ≤ 5
    · rw [if_pos h, if_pos h]
      show (if 20 ≤ i ∧ i < 27 then _ else ρ.av i) = ρ.av i
      rw [if_neg (by omega)]
    · rw [if_neg h, if_neg h]
theorem told_some (ρ : Env) (h4 : ∀ r, 0 ≤ r → r < ρ.iv 1 → 0 ≤ ρ.av 3 r 4) :
    ∃ n b49 b51 ρe, (∀ m, ChkR (extE ρ n b49 b51 ρe) m → (extE ρ n b49 b51 ρe).iv 50 = m) ∧ ((extE ρ n b49 b51 ρe).iv 50 = 0 → Told (extE ρ n b49 b51 ρe)) ∧ 0 ≤ (extE ρ n b49 b51 ρe).iv 69 ∧ (extE ρ n b49 b51 ρe).iv 69 ≤ 1000000 := by
  obtain ⟨n, hn⟩ := chkR_some ρ
  have hu : ∀ b49 b51 ρe m, ChkR (extE ρ n b49 b51 ρe) m → (extE ρ n b49 b51 ρe).iv 50 = m := fun b49 b51 ρe m h => (hn.one (chkR_of (ρ := extE ρ n b49 b51 ρe) (ρ' := ρ) rfl rfl rfl h))
  by_cases h0 : n = 0
  · subst h0
    have hI := inv_of hn h4
    by_cases hE : ∃ x y b ρ', Ends false (start (rgEnv ρ x y (ρ.iv 3))) b ρ'
    · obtain ⟨x, y, b, ρ', hE⟩ := hE
      obtain ⟨e1, e2, e3, e4, e5, e6, e7⟩ := ends_inv hE (hI x y _)
      refine ⟨0, b, true, ρ', hu _ _ _, fun _ => ?_, e3, by show ρ'.iv 9 ≤ 1000000; omega⟩
      have hrg : ∀ x y m, rgEnv (extE ρ 0 b true ρ') x y m = rgEnv ρ x y m := rgEnv_ext ρ 0 b true ρ'
      refine ⟨fun x y m => by rw [hrg]; exact hI x y m, fun x2 y2 b2 ρ2 h2 => ?_, fun _ => ⟨x, y, b, ρ', by rw [hrg]; exact hE⟩⟩
      rw [hrg] at h2
      have h2 : Ends false (start (rgEnv ρ x2 y2 (ρ.iv 3))) b2 ρ2 := h2
      obtain ⟨rfl, ha⟩ := ends_det hE (hI x y _) (ρ' := start (rgEnv ρ x2 y2 (ρ.iv 3))) ⟨rfl, rfl⟩ h2
      refine ⟨⟨?_, fun i hi _ => ?_, fun i hi => ?_⟩, by show (1 : Int) ≠ 0; omega⟩
      · show b = true ↔ (if b = true then (1 : Int) else 0) ≠ 0
        cases b <;> simp
      · show (if 60 + i = 50 then (0 : Int) else if 60 + i = 49 then _ else if 60 + i = 51 then _ else if 60 ≤ 60 + i ∧ 60 + i < 75 then ρ'.iv (60 + i - 60) else _) = _
        rw [if_neg (by omega), if_neg (by omega), if_neg (by omega), if_pos (by omega), show 60 + i - 60 = i by omega, ha.iv]
      · show (if 20 ≤ 20 + i ∧ 20 + i < 27 then ρ'.av (20 + i - 20) else _) = _
        rw [if_pos (by omega), show 20 + i - 20 = i by omega, ha.av]
    · have hrg : ∀ x y m, rgEnv (extE ρ 0 false false ⟨fun _ => 0, fun _ _ _ => 0, fun _ => undef⟩) x y m = rgEnv ρ x y m := rgEnv_ext ρ 0 false false _
      refine ⟨0, false, false, ⟨fun _ => 0, fun _ _ _ => 0, fun _ => undef⟩, hu _ _ _, fun _ => ?_, Int.le_refl _, by show (0 : Int) ≤ 1000000; omega⟩
      refine ⟨fun x y m => by rw [hrg]; exact hI x y m, fun x2 y2 b2 ρ2 h2 => ?_, fun h => absurd rfl h⟩
      rw [hrg] at h2
      exact absurd ⟨x2, y2, b2, ρ2, h2⟩ hE
  · exact ⟨n, false, false, ⟨fun _ => 0, fun _ _ _ => 0, fun _ => undef⟩, hu _ _ _, fun h => absurd h h0, Int.le_refl _, by show (0 : Int) ≤ 1000000; omega⟩

/-! ### The law's ways -/
def lawArgs : List V := [.agg [.int .i64 (.v 0), .ms 0 2 (.v 1)], .ms 1 3 (.v 2), .agg [.ms 2 4 (.v 3), .ms 3 6 (.v 47)]]
def lawS (pc : List E) : S := ⟨pc, 7, [⟨2, false, 43, false, false, none, [.arr (.av 3) insKs (.v 1)]⟩, ⟨3, false, 5, false, false, none, [.arr (.av 4) [.int .u8] (.v 2)]⟩,
  ⟨4, false, 30, false, false, none, [.arr (.av 5) [.int .u32] (.v 3)]⟩, ⟨6, false, 30, false, false, none, [.arr (.av 7) [.int .u32] (.v 47)]⟩]⟩
def pcL : List E := [.bi .le (.v 1) (.c 300), .bi .le (.v 2) (.c 300), .bi .le (.v 3) (.c 20), .bi .le (.v 47) (.c 20), .bi .le (.c 0) (.v 69), .bi .le (.c 0) (.v 3), .bi .le (.v 3) (.c 35184372088832), .bi .le (.v 47) (.c 35184372088832), .bi .le (.bi .add (.v 3) (.v 47)) (.c 35184372088832), .bi .le (.c 0) (.v 2), .bi .le (.v 2) (.c 140737488355328)]
def okLaw (o : Option (List COut)) : Bool := match o with
  | some l => l.all fun
    | .ret (.bool (.c 1)) s => s.H.all fun c => !c.own || c.fresh
    | _ => false
  | none => false
theorem lawA : okLaw (callX Try.prog kLaw 200 3 lawArgs (lawS pcL)) = true := by kernel_rfl
theorem lawB1 : okLaw (callX Try.prog k5 200 3 lawArgs (lawS [.bi .lt (.c 300) (.v 1)])) = true := by kernel_rfl
theorem lawB2 : okLaw (callX Try.prog k5 200 3 lawArgs (lawS [.bi .le (.v 1) (.c 300), .bi .lt (.c 300) (.v 2)])) = true := by kernel_rfl
theorem lawB3 : okLaw (callX Try.prog k5 200 3 lawArgs (lawS [.bi .le (.v 1) (.c 300), .bi .le (.v 2) (.c 300), .bi .lt (.c 20) (.v 3)])) = true := by kernel_rfl
theorem lawB4 : okLaw (callX Try.prog k5 200 3 lawArgs (lawS [.bi .le (.v 1) (.c 300), .bi .le (.v 2) (.c 300), .bi .le (.v 3) (.c 20), .bi .lt (.c 20) (.v 47)])) = true := by kernel_rfl
theorem okLaw_calls {ρ : Env} {K : CallF} (hK : CallOK ρ Try.prog K) {pc : List E} (h : okLaw (callX Try.prog K 200 3 lawArgs (lawS pc)) = true) {W : World} {σ : Sig} {xs : List Value} (g : Gam ρ W σ (lawS pc) W) (hv : valL ρ σ lawArgs = some xs) :
    Calls Try.prog 3 xs.toArray W fun e w' => e = .returned (.bool true) ∧ Old W w' := by
  unfold okLaw at h
  split at h
  case h_2 => cases h
  rename_i l hl
  rw [List.all_eq_true] at h
  have hn : NBC ρ l := fun s hs => by have := h _ hs; simp at this
  refine ((callX_ok hK named_ok mixed_ok 200) W 3 lawArgs _ l hl hn σ W xs g hv).2.mono fun e w' hs => ?_
  cases e with
  | returned x =>
    obtain ⟨v, s, τ, hm, g', hv'⟩ := hs
    have := h _ hm
    split at this
    · rename_i s' he
      cases he
      simp only [V.val, E.n_c, Option.some.injEq] at hv'
      subst hv'
      refine ⟨rfl, g'.old fun c hc ho => ?_⟩
      have := List.all_eq_true.1 this c hc
      rw [ho] at this
      simpa using this
    · cases this
  | panicked c =>
    obtain ⟨v, s, τ, x, hm, _⟩ := hs
    have := h _ hm
    simp at this
  | outgrown => exact hs.elim
end Go.Proofs.Ytfnekjeicdhihaa
