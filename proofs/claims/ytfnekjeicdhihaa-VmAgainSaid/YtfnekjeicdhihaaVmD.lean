/- The run of package vm: what the turns come to, told without a machine; it is determined, and does not hang on answers that are not asked for. -/
import Derived.Test.YtfnekjeicdhihaaVmC
import Derived.IntWalk
import Derived.RowKit
namespace Go.Proofs.Ytfnekjeicdhihaa
open Go.SX

theorem lk_cases {α : Type} (l : List (Nat × α)) (i : Nat) (d : α) : lk l i d = d ∨ ∃ p ∈ l, p.1 = i ∧ lk l i d = p.2 := by
  unfold lk; split
  · rename_i p hp
    have := List.find?_some hp
    exact .inr ⟨p, List.mem_of_find?_eq_some hp, eq_of_beq this, rfl⟩
  · exact .inl rfl

def fault (n : Int) (ρ : Env) : Env := { ρ with iv := fun i => if i = 6 ∨ i = 20 then n else ρ.iv i }
/-- What the turns come to. -/
inductive Ends : Bool → Env → Bool → Env → Prop
  | stop {b : Bool} {ρ : Env} : ρ.iv 14 ≠ 0 → Ends b ρ b ρ
  | jump {b : Bool} {ρ : Env} : ρ.iv 14 = 0 → ρ.iv 1 ≤ ρ.iv 4 → Ends b ρ b (fault 1 (fetch ρ))
  | halt {b b' : Bool} {ρ : Env} {n : Int} {iv av : List (Nat × E)} : ρ.iv 14 = 0 → ρ.iv 4 < ρ.iv 1 → Way b ρ (.halt n b' iv av) → Ends b ρ b' (fault n (envOf iv av (fetch ρ)))
  | next {b b' b'' : Bool} {ρ ρ' : Env} {iv av : List (Nat × E)} : ρ.iv 14 = 0 → ρ.iv 4 < ρ.iv 1 → Way b ρ (.next b' iv av) → Ends b' (envOf iv av (fetch ρ)) b'' ρ' → Ends b ρ b'' ρ'

section
variable {ρ : Env} {b b' : Bool}
theorem okIv_lt {op : Int} {go : Bool} {iv : List (Nat × E)} (h : okIv b op go b' iv = true) {i : Nat} (hi : i < 4) : lk iv i (.v i) = .v i := by
  simp only [okIv, List.all_eq_true] at h
  rcases lk_cases iv i (.v i) with e | ⟨p, hp, rfl, e⟩
  · exact e
  · have := h p hp
    rw [if_pos hi] at this
    rw [e]; simpa using this
theorem okIv_only {op : Int} {go : Bool} {iv : List (Nat × E)} (h : okIv b op go b' iv = true) {i : Nat} (hi : i ≠ 3) : un35 b (lk iv i (.v i)) = true := by
  by_cases h4 : i < 4
  · rw [okIv_lt h h4]; simpa [un35, E.only] using hi
  · simp only [okIv, List.all_eq_true] at h
    rcases lk_cases iv i (.v i) with e | ⟨p, hp, rfl, e⟩
    · rw [e]; simpa [un35, E.only] using hi
    · have := h p hp
      rw [if_neg h4, Bool.and_eq_true] at this
      rw [e]; exact this.1
theorem okAv_3 {op : Int} {av : List (Nat × E)} (h : okAv b op av = true) : lk av 3 (.av 3) = insA op := by
  simp only [okAv, Bool.and_eq_true, decide_eq_true_eq] at h; exact h.1
theorem okAv_45 {op : Int} {av : List (Nat × E)} (h : okAv b op av = true) {i : Nat} (hi : i = 4 ∨ i = 5) : lk av i (.av i) = .av i := by
  simp only [okAv, Bool.and_eq_true, decide_eq_true_eq, List.all_eq_true] at h
  rcases lk_cases av i (.av i) with e | ⟨p, hp, rfl, e⟩
  · exact e
  · have := h.2 p hp
    rw [if_neg (by omega), if_pos hi] at this
    rw [e]; simpa using this
theorem okAv_only {op : Int} {av : List (Nat × E)} (h : okAv b op av = true) {i : Nat} (hi : i ≠ 5) : un35 b (lk av i (.av i)) = true := by
  by_cases h3 : i = 3
  · subst h3; rw [okAv_3 h]; simp [insA, un35, E.only]
  · by_cases h4 : i = 4
    · subst h4; rw [okAv_45 h (.inl rfl)]; simp [un35, E.only]
    · simp only [okAv, Bool.and_eq_true, decide_eq_true_eq, List.all_eq_true] at h
      rcases lk_cases av i (.av i) with e | ⟨p, hp, rfl, e⟩
      · rw [e]; simpa [un35, E.only] using hi
      · have := h.2 p hp
        rw [if_neg h3, if_neg (by omega)] at this
        rw [e]; exact this

theorem way_ok (hI : Inv b ρ) (hlt : ρ.iv 4 < ρ.iv 1) {r : Res} (h : Way b ρ r) : okR b (ρ.av 3 (ρ.iv 4) 0) r = true := by
  obtain ⟨l, o, hl, ho, hr, _⟩ := h
  have hop := hI.ins _ hI.at0 hlt
  have hB := okB_all b hop.1.1 hop.1.2
  rw [hl] at hB
  simp only [okB, Bool.and_eq_true, List.all_eq_true] at hB
  have := hB.1 _ ho
  simp only [okO, hr, Bool.and_eq_true] at this
  exact this.1
/-- From one place there is one way. -/
theorem way_one (hI : Inv b ρ) (hlt : ρ.iv 4 < ρ.iv 1) {r r' : Res} (h : Way b ρ r) (h' : Way b ρ r') : r = r' := by
  obtain ⟨l, o, hl, ho, hr, hp⟩ := h
  obtain ⟨l', o', hl', ho', hr', hp'⟩ := h'
  rw [hl] at hl'
  cases hl'
  have hop := hI.ins _ hI.at0 hlt
  have hB := okB_all b hop.1.1 hop.1.2
  rw [hl] at hB
  simp only [okB, Bool.and_eq_true, List.all_eq_true] at hB
  have := hB.2 _ ho _ ho'
  simp only [okPair, Bool.or_eq_true, decide_eq_true_eq] at this
  rcases this with h | h
  · exact (contra_ok h hp hp').elim
  · rw [hr, hr'] at h; exact Option.some.inj h

theorem fetch_iv (i : Nat) (h : i ≠ 7 ∧ i ≠ 10 ∧ i ≠ 11 ∧ i ≠ 12 ∧ i ≠ 13) : (fetch ρ).iv i = ρ.iv i := by simp [fetch, h]
theorem av3_keep {op : Int} {iv av : List (Nat × E)} (h : okAv b op av = true) (ho : op = ρ.av 3 (ρ.iv 4) 0) : (envOf iv av (fetch ρ)).av 3 = ρ.av 3 := by
  show (lk av 3 (.av 3)).a (fetch ρ) = _
  rw [okAv_3 h, ho]; exact insA_a rfl
theorem wrap_in {n : Int} (h : -9223372036854775808 ≤ n ∧ n ≤ 9223372036854775807) : IntKind.i64.wrap n = n := by
  rw [IntKind.wrap_i64]; omega
theorem way_next (hI : Inv b ρ) (hlt : ρ.iv 4 < ρ.iv 1) {iv av : List (Nat × E)} (h : Way b ρ (.next b' iv av)) :
    Inv b' (envOf iv av (fetch ρ)) ∧ ρ.iv 4 < (envOf iv av (fetch ρ)).iv 4 ∧ (∀ i, i < 4 → (envOf iv av (fetch ρ)).iv i = ρ.iv i) ∧ (envOf iv av (fetch ρ)).av 3 = ρ.av 3 ∧ (∀ i, i = 4 ∨ i = 5 → (envOf iv av (fetch ρ)).av i = ρ.av i) ∧
      ρ.iv 9 ≤ (envOf iv av (fetch ρ)).iv 9 ∧ (ρ.av 3 (ρ.iv 4) 0 = 23 → (envOf iv av (fetch ρ)).iv 9 = ρ.iv 9 + 1) ∧ (envOf iv av (fetch ρ)).iv 14 = (if ρ.av 3 (ρ.iv 4) 0 = 24 then 1 else 0) := by
  have hk := way_ok hI hlt h
  simp only [okR, Bool.and_eq_true, decide_eq_true_eq, Bool.or_eq_true] at hk
  obtain ⟨⟨⟨⟨⟨⟨k1, k2⟩, k3⟩, k4⟩, k5⟩, k6⟩, k7⟩ := hk
  have hins := hI.ins _ hI.at0 hlt
  have hlow : ∀ i, i < 4 → (envOf iv av (fetch ρ)).iv i = ρ.iv i := fun i hi => by
    show (lk iv i (.v i)).n (fetch ρ) = _
    rw [okIv_lt k1 hi]; exact fetch_iv i (by omega)
  have h3 := av3_keep (iv := iv) k2 rfl
  have h45 : ∀ i, i = 4 ∨ i = 5 → (envOf iv av (fetch ρ)).av i = ρ.av i := fun i hi => by
    show (lk av i (.av i)).a (fetch ρ) = _
    rw [okAv_45 k2 hi]; rfl
  have e4 : (fetch ρ).iv 4 = ρ.iv 4 := fetch_iv 4 (by omega)
  have e9 : (fetch ρ).iv 9 = ρ.iv 9 := fetch_iv 9 (by omega)
  have e12 : (fetch ρ).iv 12 = ρ.av 3 (ρ.iv 4) 3 := rfl
  have := hI.at0
  have := hI.len
  have hat : ρ.iv 4 < (envOf iv av (fetch ρ)).iv 4 ∧ (envOf iv av (fetch ρ)).iv 4 ≤ 40000 := by
    show _ < (lk iv 4 (.v 4)).n (fetch ρ) ∧ (lk iv 4 (.v 4)).n (fetch ρ) ≤ _
    rcases lk_cases iv 4 (.v 4) with e | ⟨p, hp, hp4, e⟩
    · exact absurd e k3
    · simp only [okIv, List.all_eq_true] at k1
      have h1 := k1 p hp
      rw [if_neg (by omega), Bool.and_eq_true, if_pos hp4, if_pos trivial, Bool.or_eq_true, decide_eq_true_eq, decide_eq_true_eq] at h1
      rw [e]
      rcases h1.2 with h2 | ⟨h2, h5, h6⟩
      · rw [h2]
        simp only [at1, E.n_un, E.n_bi, E.n_v, E.n_c, U.den, O.den, e4]
        rw [wrap_in (by omega)]
        omega
      · rw [h6]
        have h7 := hins.2.2.2.2.2 h2 h5
        have h8 := hins.2.2.2.1
        simp only [at2, E.n_un, E.n_bi, E.n_v, E.n_c, U.den, O.den, e4, e12]
        rw [wrap_in (n := 1 + _) (by omega), wrap_in (by omega)]
        omega
  have h9 : (envOf iv av (fetch ρ)).iv 9 = ρ.iv 9 ∨ (envOf iv av (fetch ρ)).iv 9 = ρ.iv 9 + 1 := by
    show (lk iv 9 (.v 9)).n (fetch ρ) = _ ∨ (lk iv 9 (.v 9)).n (fetch ρ) = _
    rcases lk_cases iv 9 (.v 9) with e | ⟨p, hp, hp9, e⟩
    · left; rw [e]; exact e9
    · simp only [okIv, List.all_eq_true] at k1
      have h1 := k1 p hp
      rw [if_neg (by omega), Bool.and_eq_true, if_neg (by omega), if_pos hp9] at h1
      simp only [Bool.or_eq_true, decide_eq_true_eq] at h1
      rw [e]
      rcases h1.2 with (h2 | ⟨_, _, _, h2⟩) | ⟨_, _, hb, _, h2⟩
      · left; rw [h2]; exact e9
      · right; rw [h2]; simp only [E.n_bi, E.n_v, E.n_c, O.den, e9]
      · right; rw [h2, hI.cb hb]; rfl
  have h23 : ρ.av 3 (ρ.iv 4) 0 = 23 → (envOf iv av (fetch ρ)).iv 9 = ρ.iv 9 + 1 := by
    intro h23
    show (lk iv 9 (.v 9)).n (fetch ρ) = _
    rcases k7 with (k7 | k7) | ⟨hb, k7⟩
    · exact absurd h23 k7
    · rw [k7]; simp only [E.n_bi, E.n_v, E.n_c, O.den, e9]
    · rw [k7, hI.cb (by simpa using hb)]; rfl
  refine ⟨⟨by omega, hat.2, by rw [hlow 1 (by omega)]; exact hI.len, ?_, ?_, ?_, ?_⟩, hat.1, hlow, h3, h45, by omega, h23, ?_⟩
  · have := hI.c0; omega
  · have := hI.cA; omega
  · intro hb
    rcases k4 with k4 | ⟨k4, k4'⟩
    · rw [hb] at k4; cases k4
    · show (lk iv 9 (.v 9)).n (fetch ρ) = 0
      rw [k4']
      show (fetch ρ).iv 9 = 0
      rw [e9]; exact hI.cb (by simpa using k4)
  · intro r h1 h2
    rw [hlow 1 (by omega)] at h2
    rw [h3]; exact hI.ins r h1 h2
  · show (lk iv 14 (.v 14)).n (fetch ρ) = _
    rw [k6]; split <;> rfl

/-- Numbers and rows alike. -/
structure Alike (ρ ρ' : Env) : Prop where
  iv : ρ'.iv = ρ.iv
  av : ρ'.av = ρ.av
theorem Alike.inv {ρ' : Env} (h : Alike ρ ρ') (hI : Inv b ρ) : Inv b ρ' := by
  obtain ⟨h1, h2⟩ := h
  exact ⟨by rw [h1]; exact hI.at0, by rw [h1]; exact hI.atM, by rw [h1]; exact hI.len, by rw [h1]; exact hI.c0, by rw [h1]; exact hI.cA, by rw [h1]; exact hI.cb, by rw [h1, h2]; exact hI.ins⟩
theorem Alike.fetch {ρ' : Env} (h : Alike ρ ρ') : Alike (fetch ρ) (fetch ρ') := ⟨by funext i; simp only [Go.Proofs.Ytfnekjeicdhihaa.fetch, h.iv, h.av], by simp only [Go.Proofs.Ytfnekjeicdhihaa.fetch, h.av]⟩
theorem Alike.envOf {ρ' : Env} (h : Alike ρ ρ') (iv av : List (Nat × E)) : Alike (envOf iv av ρ) (envOf iv av ρ') :=
  ⟨by funext i; simp only [Go.Proofs.Ytfnekjeicdhihaa.envOf, E.n, E.den_iv h.iv h.av], by funext i; simp only [Go.Proofs.Ytfnekjeicdhihaa.envOf, E.a, E.den_iv h.iv h.av]⟩
theorem Alike.fault {ρ' : Env} (h : Alike ρ ρ') (n : Int) : Alike (fault n ρ) (fault n ρ') := ⟨by funext i; simp only [Go.Proofs.Ytfnekjeicdhihaa.fault, h.iv], h.av⟩
theorem Alike.way {ρ' : Env} (h : Alike ρ ρ') {r : Res} (hw : Way b ρ r) : Way b ρ' r := by
  obtain ⟨l, o, h1, h2, h3, h4⟩ := hw
  refine ⟨l, o, by rw [h.iv, h.av]; exact h1, h2, h3, fun e he => ?_⟩
  have := h4 e he
  simpa only [E.n, E.den_iv h.fetch.iv h.fetch.av] using this

/-- **Alike begun, alike ended.** -/
theorem ends_det {b1 : Bool} {ρ1 : Env} (h : Ends b ρ b1 ρ1) : Inv b ρ → ∀ {ρ' : Env} {b2 : Bool} {ρ2 : Env}, Alike ρ ρ' → Ends b ρ' b2 ρ2 → b1 = b2 ∧ Alike ρ1 ρ2 := by
  induction h with
  | stop h1 =>
    intro hI ρ' b2 ρ2 ha h2
    cases h2 with
    | stop _ => exact ⟨rfl, ha⟩
    | jump h3 _ => rw [ha.iv] at h3; exact absurd h3 h1
    | halt h3 _ _ => rw [ha.iv] at h3; exact absurd h3 h1
    | next h3 _ _ _ => rw [ha.iv] at h3; exact absurd h3 h1
  | jump h0 h1 =>
    intro hI ρ' b2 ρ2 ha h2
    cases h2 with
    | stop h3 => rw [ha.iv] at h3; exact absurd h0 h3
    | jump _ _ => exact ⟨rfl, ha.fetch.fault 1⟩
    | halt _ h3 _ => rw [ha.iv] at h3; omega
    | next _ h3 _ _ => rw [ha.iv] at h3; omega
  | halt h0 h1 hw =>
    intro hI ρ' b2 ρ2 ha h2
    cases h2 with
    | stop h3 => rw [ha.iv] at h3; exact absurd h0 h3
    | jump _ h3 => rw [ha.iv] at h3; omega
    | halt _ h3 hw' =>
      have := way_one (ha.inv hI) h3 (ha.way hw) hw'
      cases this
      exact ⟨rfl, (ha.fetch.envOf _ _).fault _⟩
    | next _ h3 hw' _ =>
      have := way_one (ha.inv hI) h3 (ha.way hw) hw'
      cases this
  | next h0 h1 hw _ ih =>
    intro hI ρ' b2 ρ2 ha h2
    cases h2 with
    | stop h3 => rw [ha.iv] at h3; exact absurd h0 h3
    | jump _ h3 => rw [ha.iv] at h3; omega
    | halt _ h3 hw' =>
      have := way_one (ha.inv hI) h3 (ha.way hw) hw'
      cases this
    | next _ h3 hw' h4 =>
      have := way_one (ha.inv hI) h3 (ha.way hw) hw'
      cases this
      exact ih (way_next hI h1 hw).1 (ha.fetch.envOf _ _) h4

/-! ### More answers than are asked for -/
/-- Alike but for how many answers there are. (The row of answers is the longer one's in both.) -/
structure More (ρ ρ' : Env) : Prop where
  iv : ∀ i, i ≠ 3 → ρ'.iv i = ρ.iv i
  av : ρ'.av = ρ.av
  n : ρ.iv 3 ≤ ρ'.iv 3
theorem More.inv {ρ' : Env} (h : More ρ ρ') (hI : Inv b ρ) : Inv b ρ' := by
  obtain ⟨h1, h2, _⟩ := h
  exact ⟨by rw [h1 4 (by omega)]; exact hI.at0, by rw [h1 4 (by omega)]; exact hI.atM, by rw [h1 1 (by omega)]; exact hI.len, by rw [h1 9 (by omega)]; exact hI.c0, by rw [h1 4 (by omega), h1 9 (by omega)]; exact hI.cA,
    by rw [h1 9 (by omega)]; exact hI.cb, by rw [h1 1 (by omega), h2]; exact hI.ins⟩
theorem More.fetch {ρ' : Env} (h : More ρ ρ') : More (fetch ρ) (fetch ρ') :=
  ⟨fun i hi => by simp only [Go.Proofs.Ytfnekjeicdhihaa.fetch, h.iv 4 (by omega), h.iv i hi, h.av], h.av, h.n⟩
theorem More.fault {ρ' : Env} (h : More ρ ρ') (n : Int) : More (fault n ρ) (fault n ρ') := ⟨fun i hi => by simp only [Go.Proofs.Ytfnekjeicdhihaa.fault, h.iv i hi], h.av, h.n⟩
theorem kOf_n {b : Bool} (h : b = false → ρ.iv 9 = 0) : (kOf b).n ρ = ρ.iv 9 := by
  cases b
  · exact (h rfl).symm
  · rfl
theorem More.den {ρ' : Env} (h : More ρ ρ') {b : Bool} {e : E} (he : un35 b e = true) : e.den ρ' = e.den ρ := by
  refine E.den_only (fun e he => ?_) (fun i hi => h.iv i (by simpa using hi)) (fun i _ => by rw [h.av]) e he
  simp only [spec, decide_eq_true_eq] at he
  subst he
  have hk : (kOf b).den ρ' = (kOf b).den ρ := by
    cases b
    · rfl
    · simp only [kOf, if_true, E.den, h.iv 9 (by omega)]
  simp only [E.den, hk, h.av]
theorem More.envOf {ρ' : Env} (h : More ρ ρ') {op : Int} {go b' : Bool} {iv av : List (Nat × E)} (h1 : okIv b op go b' iv = true) (h2 : okAv b op av = true) : More (envOf iv av ρ) (envOf iv av ρ') := by
  refine ⟨fun i hi => ?_, ?_, ?_⟩
  · show (lk iv i (.v i)).n ρ' = (lk iv i (.v i)).n ρ
    simp only [E.n, h.den (okIv_only h1 hi)]
  · funext i
    show (lk av i (.av i)).a ρ' = (lk av i (.av i)).a ρ
    by_cases h5 : i = 5
    · subst h5; rw [okAv_45 h2 (.inr rfl)]; simp only [E.a_av, h.av]
    · simp only [E.a, h.den (okAv_only h2 h5)]
  · show (lk iv 3 (.v 3)).n ρ ≤ (lk iv 3 (.v 3)).n ρ'
    rw [okIv_lt h1 (by omega)]; exact h.n
theorem More.way {ρ' : Env} (h : More ρ ρ') (hI : Inv b ρ) (hlt : ρ.iv 4 < ρ.iv 1) {r : Res} (hask : ρ.av 3 (ρ.iv 4) 0 = 23 → ρ.iv 9 < ρ.iv 3) (hw : Way b ρ r) : Way b ρ' r := by
  obtain ⟨l, o, hl, ho, hr, hp⟩ := hw
  have hop := hI.ins _ hI.at0 hlt
  have hB := okB_all b hop.1.1 hop.1.2
  rw [hl] at hB
  simp only [okB, Bool.and_eq_true, List.all_eq_true] at hB
  have hk := hB.1 _ ho
  simp only [okO, Bool.and_eq_true, List.all_eq_true] at hk
  refine ⟨l, o, by rw [h.iv 4 (by omega), h.av]; exact hl, ho, hr, fun e he => ?_⟩
  have h1 := hp e he
  have h2 := hk.2 e he
  simp only [okPc, Bool.or_eq_true, decide_eq_true_eq] at h2
  have f9 : (Go.Proofs.Ytfnekjeicdhihaa.fetch ρ).iv 9 = ρ.iv 9 := fetch_iv 9 (by omega)
  have f3 : (Go.Proofs.Ytfnekjeicdhihaa.fetch ρ).iv 3 = ρ.iv 3 := fetch_iv 3 (by omega)
  have g9 : (Go.Proofs.Ytfnekjeicdhihaa.fetch ρ').iv 9 = ρ.iv 9 := by rw [fetch_iv 9 (by omega)]; exact h.iv 9 (by omega)
  have g3 : (Go.Proofs.Ytfnekjeicdhihaa.fetch ρ').iv 3 = ρ'.iv 3 := fetch_iv 3 (by omega)
  have hn := h.n
  rcases h2 with h2 | ⟨h23, rfl | rfl⟩
  · simpa only [E.n, h.fetch.den h2] using h1
  · have := hask h23
    rw [E.n_bi, E.n_v, kOf_n (by rw [g9]; exact hI.cb), g9, g3, O.den]
    exact ite_one.2 (by omega)
  · have := hask h23
    rw [E.n_bi, E.n_v, kOf_n (by rw [f9]; exact hI.cb), f9, f3, O.den] at h1
    have := ite_one.1 h1
    omega
theorem ends_inv {b1 : Bool} {ρ1 : Env} (h : Ends b ρ b1 ρ1) : Inv b ρ → ρ.iv 9 ≤ ρ1.iv 9 ∧ ρ1.iv 3 = ρ.iv 3 ∧ 0 ≤ ρ1.iv 9 ∧ ρ1.iv 9 ≤ 40000 ∧ (b1 = false → ρ1.iv 9 = 0) ∧ ρ1.av 5 = ρ.av 5 ∧ ρ1.ov = ρ.ov := by
  induction h with
  | stop _ => intro hI; exact ⟨Int.le_refl _, rfl, hI.c0, by have := hI.cA; have := hI.atM; omega, hI.cb, rfl, rfl⟩
  | jump _ _ =>
    rename_i b ρ _ _
    intro hI
    have e : (fault 1 (fetch ρ)).iv 9 = ρ.iv 9 := by simp [fault, fetch]
    have e3 : (fault 1 (fetch ρ)).iv 3 = ρ.iv 3 := by simp [fault, fetch]
    rw [e, e3]
    exact ⟨Int.le_refl _, rfl, hI.c0, by have := hI.cA; have := hI.atM; omega, hI.cb, rfl, rfl⟩
  | halt h0 h1 hw =>
    rename_i b b' ρ n iv av
    intro hI
    have hk := way_ok hI h1 hw
    simp only [okR, Bool.and_eq_true, decide_eq_true_eq, beq_iff_eq] at hk
    obtain ⟨⟨⟨⟨k1, k2⟩, k3⟩, k4⟩, k5⟩ := hk
    have e : (fault n (envOf iv av (fetch ρ))).iv 9 = ρ.iv 9 := by
      show (if 9 = 6 ∨ 9 = 20 then n else (lk iv 9 (.v 9)).n (fetch ρ)) = _
      rw [if_neg (by omega), k4]; exact fetch_iv 9 (by omega)
    have e3 : (fault n (envOf iv av (fetch ρ))).iv 3 = ρ.iv 3 := by
      show (if 3 = 6 ∨ 3 = 20 then n else (lk iv 3 (.v 3)).n (fetch ρ)) = _
      rw [if_neg (by omega), okIv_lt k1 (by omega)]; exact fetch_iv 3 (by omega)
    rw [e, e3]
    refine ⟨Int.le_refl _, rfl, hI.c0, by have := hI.cA; have := hI.atM; omega, by rw [k3]; exact hI.cb, ?_, rfl⟩
    show (lk av 5 (.av 5)).a (fetch ρ) = _
    rw [okAv_45 k2 (.inr rfl)]; rfl
  | next h0 h1 hw _ ih =>
    intro hI
    obtain ⟨g1, g2, g3, g4, g5, g6, g7, g8⟩ := way_next hI h1 hw
    obtain ⟨i1, i2, i3, i4, i5, i6, i7⟩ := ih g1
    exact ⟨by omega, by rw [i2, g3 3 (by omega)], i3, i4, i5, by rw [i6, g5 5 (.inr rfl)], by rw [i7]; rfl⟩
/-- **Answers that are not asked for change nothing.** -/
theorem ends_more {b1 : Bool} {ρ1 : Env} (h : Ends b ρ b1 ρ1) : Inv b ρ → ρ1.iv 9 ≤ ρ.iv 3 → ∀ {ρ' : Env} {b2 : Bool} {ρ2 : Env}, More ρ ρ' → Ends b ρ' b2 ρ2 → b1 = b2 ∧ More ρ1 ρ2 := by
  induction h with
  | stop h1 =>
    intro hI _ ρ' b2 ρ2 ha h2
    have e14 := ha.iv 14 (by omega)
    cases h2 with
    | stop _ => exact ⟨rfl, ha⟩
    | jump h3 _ => rw [e14] at h3; exact absurd h3 h1
    | halt h3 _ _ => rw [e14] at h3; exact absurd h3 h1
    | next h3 _ _ _ => rw [e14] at h3; exact absurd h3 h1
  | jump h0 h1 =>
    intro hI _ ρ' b2 ρ2 ha h2
    have e14 := ha.iv 14 (by omega)
    have e4 := ha.iv 4 (by omega)
    have e1 := ha.iv 1 (by omega)
    cases h2 with
    | stop h3 => rw [e14] at h3; exact absurd h0 h3
    | jump _ _ => exact ⟨rfl, ha.fetch.fault 1⟩
    | halt _ h3 _ => rw [e4, e1] at h3; omega
    | next _ h3 _ _ => rw [e4, e1] at h3; omega
  | halt h0 h1 hw =>
    intro hI _ ρ' b2 ρ2 ha h2
    have e14 := ha.iv 14 (by omega)
    have e4 := ha.iv 4 (by omega)
    have e1 := ha.iv 1 (by omega)
    have hk := way_ok hI h1 hw
    simp only [okR, Bool.and_eq_true, decide_eq_true_eq, beq_iff_eq] at hk
    obtain ⟨⟨⟨⟨k1, k2⟩, k3⟩, k4⟩, k5⟩ := hk
    have hw2 := ha.way hI h1 (fun h => absurd h k5) hw
    cases h2 with
    | stop h3 => rw [e14] at h3; exact absurd h0 h3
    | jump _ h3 => rw [e4, e1] at h3; omega
    | halt _ h3 hw' =>
      have := way_one (ha.inv hI) h3 hw2 hw'
      cases this
      exact ⟨rfl, (ha.fetch.envOf k1 k2).fault _⟩
    | next _ h3 hw' _ =>
      have := way_one (ha.inv hI) h3 hw2 hw'
      cases this
  | next h0 h1 hw hE ih =>
    intro hI hle ρ' b2 ρ2 ha h2
    have e14 := ha.iv 14 (by omega)
    have e4 := ha.iv 4 (by omega)
    have e1 := ha.iv 1 (by omega)
    obtain ⟨g1, g2, g3, g4, g5, g6, g7, g8⟩ := way_next hI h1 hw
    have hmono := (ends_inv hE g1).1
    have hk := way_ok hI h1 hw
    simp only [okR, Bool.and_eq_true] at hk
    have hw2 := ha.way hI h1 (fun h => by have := g7 h; omega) hw
    cases h2 with
    | stop h3 => rw [e14] at h3; exact absurd h0 h3
    | jump _ h3 => rw [e4, e1] at h3; omega
    | halt _ h3 hw' =>
      have := way_one (ha.inv hI) h3 hw2 hw'
      cases this
    | next _ h3 hw' h4 =>
      have := way_one (ha.inv hI) h3 hw2 hw'
      cases this
      exact ih g1 (by rw [g3 3 (by omega)]; exact hle) (ha.fetch.envOf hk.1.1.1.1.1.1 hk.1.1.1.1.1.2) h4
end
end Go.Proofs.Ytfnekjeicdhihaa
