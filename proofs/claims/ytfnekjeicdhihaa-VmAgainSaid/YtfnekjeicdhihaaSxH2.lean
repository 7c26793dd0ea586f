/- A symbolic executor, part H2: a struct or an array of plain cells is equal to itself. -/
import Derived.Test.YtfnekjeicdhihaaSxH
import Derived.Laws.StructEq
namespace Go.SX

def Typed : List CK → List Value → Prop
  | [], [] => True
  | k :: ks, v :: vs => (∃ n, v = k.mk n) ∧ Typed ks vs
  | _, _ => False
theorem Typed.len : ∀ {ks : List CK} {cs : List Value}, Typed ks cs → cs.length = ks.length
  | [], [], _ => rfl
  | _ :: _, _ :: _, h => by simp [Typed.len h.2]
  | [], _ :: _, h => h.elim
  | _ :: _, [], h => h.elim
theorem Typed.split : ∀ {a b : List CK} {cs : List Value}, Typed (a ++ b) cs → Typed a (cs.take a.length) ∧ Typed b (cs.drop a.length)
  | [], b, cs, h => by simpa [Typed] using h
  | k :: a, b, [], h => h.elim
  | k :: a, b, v :: cs, h => by
    obtain ⟨h1, h2⟩ := h
    obtain ⟨h3, h4⟩ := Typed.split h2
    exact ⟨⟨h1, h3⟩, h4⟩
theorem typed_rep {ks : List CK} : ∀ (n : Nat) (cs : List Value), Typed (List.replicate n ks).flatten cs → ∀ i, i < n → Typed ks ((cs.drop (i * ks.length)).take ks.length)
  | 0, _, _, i, hi => by omega
  | n + 1, cs, hc, i, hi => by
    rw [List.replicate_succ, List.flatten_cons] at hc
    obtain ⟨h1, h2⟩ := hc.split
    rcases i with _ | i
    · simpa using h1
    · have := typed_rep n _ h2 i (by omega)
      rw [List.drop_drop] at this
      rw [show (i + 1) * ks.length = ks.length + i * ks.length by rw [Nat.add_mul]; omega]
      exact this
theorem Typed.of : ∀ {ks : List CK} {cs : List Value}, cs.length = ks.length → (∀ (j : Nat) (k : CK), ks[j]? = some k → ∃ n, cs[j]? = some (k.mk n)) → Typed ks cs
  | [], [], _, _ => trivial
  | [], _ :: _, h, _ => by simp at h
  | _ :: _, [], h, _ => by simp at h
  | k :: ks, v :: cs, h, hj => by
    refine ⟨?_, Typed.of (by simpa using h) fun j k' hk => by simpa using hj (j + 1) k' (by simpa using hk)⟩
    obtain ⟨n, hn⟩ := hj 0 k rfl
    exact ⟨n, by simpa using hn⟩
theorem Typed.append : ∀ {a b : List CK} {c d : List Value}, Typed a c → Typed b d → Typed (a ++ b) (c ++ d)
  | [], _, [], _, _, h => h
  | [], _, _ :: _, _, h, _ => h.elim
  | _ :: _, _, [], _, h, _ => h.elim
  | _ :: _, _, _ :: _, _, h, h' => ⟨h.1, Typed.append h.2 h'⟩
theorem rep_get {α : Type} (L : List α) : ∀ (n j : Nat), j < n * L.length → (List.replicate n L).flatten[j]? = L[j % L.length]?
  | 0, j, h => by omega
  | n + 1, j, h => by
    rw [List.replicate_succ, List.flatten_cons]
    by_cases hj : j < L.length
    · rw [List.getElem?_append_left hj, Nat.mod_eq_of_lt hj]
    · rw [Nat.add_mul] at h
      have h1 : j % L.length = (j - L.length) % L.length := Nat.mod_eq_sub_mod (by omega)
      rw [List.getElem?_append_right (by omega), rep_get L n _ (by omega), h1]
theorem arr_typed (f : Int → Nat → Int) (ks : List CK) (n : Nat) : Typed (List.replicate n ks).flatten (arrCells f ks n) := by
  refine Typed.of (by rw [arrCells_length]; simp) fun j k hk => ?_
  have hj : j < n * ks.length := by
    have := (List.getElem?_eq_some_iff.1 hk).1
    simpa using this
  rw [rep_get ks n j hj] at hk
  rw [arrCells_get _ _ _ _ hj]
  refine ⟨f (j / ks.length : Nat) (j % ks.length), ?_⟩
  simp only [arrCell, List.getD_eq_getElem?_getD, hk, Option.getD_some]
mutual
def V.kinds : V → Option (List CK)
  | .int k _ => some [.int k]
  | .bool _ => some [.bool]
  | .arr _ ks (.c n) => some (List.replicate n.toNat ks).flatten
  | .agg l => kindsL l
  | _ => none
def kindsL : List V → Option (List CK)
  | [] => some []
  | x :: xs => match x.kinds, kindsL xs with
    | some a, some b => some (a ++ b)
    | _, _ => none
end
mutual
theorem V.kinds_ok (ρ : Env) (σ : Sig) : ∀ (x : V) (ks : List CK) (cs : List Value), x.kinds = some ks → x.cells ρ σ = some cs → Typed ks cs
  | .int k e, ks, cs, h, hc => by
    simp only [V.kinds, Option.some.injEq] at h; simp only [V.cells, Option.some.injEq] at hc
    subst h; subst hc; exact ⟨⟨_, rfl⟩, trivial⟩
  | .bool e, ks, cs, h, hc => by
    simp only [V.kinds, Option.some.injEq] at h; simp only [V.cells, Option.some.injEq] at hc
    subst h; subst hc; exact ⟨⟨_, rfl⟩, trivial⟩
  | .agg l, ks, cs, h, hc => by
    simp only [V.kinds] at h; simp only [V.cells] at hc
    exact kindsL_ok ρ σ l ks cs h hc
  | .arr a ks' n, ks, cs, h, hc => by
    cases n <;> simp [V.kinds] at h
    rename_i n
    subst h
    simp only [V.cells] at hc
    by_cases h0 : 0 ≤ n
    · have hn : natOf ρ (.c n) = some n.toNat := if_pos h0
      rw [hn, Option.map_some, Option.some.injEq] at hc
      subst hc
      exact arr_typed _ _ _
    · have hn : natOf ρ (.c n) = none := if_neg h0
      rw [hn] at hc; cases hc
  | .tup _, ks, cs, h, hc | .nilp, ks, cs, h, hc | .nils, ks, cs, h, hc | .nilf, ks, cs, h, hc | .nili, ks, cs, h, hc
  | .str .., ks, cs, h, hc | .bs .., ks, cs, h, hc | .nilm, ks, cs, h, hc | .ms .., ks, cs, h, hc | .ptr .., ks, cs, h, hc | .fn .., ks, cs, h, hc | .iface .., ks, cs, h, hc | .mapr .., ks, cs, h, hc
  | .ov .., ks, cs, h, hc | .slice .., ks, cs, h, hc => by simp [V.kinds] at h
theorem kindsL_ok (ρ : Env) (σ : Sig) : ∀ (l : List V) (ks : List CK) (cs : List Value), kindsL l = some ks → cellsL ρ σ l = some cs → Typed ks cs
  | [], ks, cs, h, hc => by simp [kindsL] at h; simp [cellsL] at hc; subst h; subst hc; trivial
  | x :: xs, ks, cs, h, hc => by
    obtain ⟨a, b, h1, h2, rfl⟩ := cellsL_cons hc
    simp only [kindsL] at h
    split at h
    · rename_i p q h3 h4
      cases h
      exact (V.kinds_ok ρ σ x p a h3 h1).append (kindsL_ok ρ σ xs q b h4 h2)
    · cases h
end
def eqF (g : TypeId → Option (List CK)) : List Field → Nat → Option (List CK)
  | [], _ => some []
  | f :: fs, off => if f.name ≠ "_" ∧ f.offset = off then match g f.type with
      | some ks => (eqF g fs (off + ks.length)).map (ks ++ ·)
      | none => none
    else none
def eqT (P : Program) : Nat → TypeId → Option (List CK)
  | 0, _ => none
  | f + 1, t => match P.info? t, P.underlying t with
    | some inf, some .bool => if inf.size = 1 then some [.bool] else none
    | some inf, some (.int k) => if inf.size = 1 then some [.int k] else none
    | some inf, some (.array n e) => match eqT P f e with
      | some ks => if inf.size = n * ks.length then some (List.replicate n ks).flatten else none
      | none => none
    | some inf, some (.struct fs) => if P.stoodInHeld t = true then none else match eqF (eqT P f) fs.toList 0 with
      | some ks => if inf.size = ks.length then some ks else none
      | none => none
    | _, _ => none
def asV (P : Program) (t : TypeId) (cs : List Value) : Value := match P.underlying t with
  | some d => if isAggD d = true then .agg cs.toArray else cs.headD undef
  | none => undef

section
variable {P : Program}
theorem eqT_info {f : Nat} {t : TypeId} {ks : List CK} (h : eqT P f t = some ks) : ∃ inf d, P.info? t = some inf ∧ P.underlying t = some d ∧ inf.size = ks.length ∧ (isAggD d = true ∨ inf.size = 1) := by
  cases f with
  | zero => simp [eqT] at h
  | succ f =>
    simp only [eqT] at h
    split at h
    · rename_i inf hi hd
      split at h
      · rename_i hs; cases h; exact ⟨inf, _, hi, hd, hs, .inr hs⟩
      · cases h
    · rename_i inf k hi hd
      split at h
      · rename_i hs; cases h; exact ⟨inf, _, hi, hd, hs, .inr hs⟩
      · cases h
    · rename_i inf n e hi hd
      split at h
      · split at h
        · rename_i hs; cases h; exact ⟨inf, _, hi, hd, by simp [hs], .inl rfl⟩
        · cases h
      · cases h
    · rename_i inf fs hi hd
      split at h
      · cases h
      · split at h
        · split at h
          · rename_i hs; cases h; exact ⟨inf, _, hi, hd, hs, .inl rfl⟩
          · cases h
        · cases h
    · cases h
theorem run_part_raw {t : TypeId} {inf : TypeInfo} {d : TypeDesc} (hi : P.info? t = some inf) (hd : P.underlying t = some d) (hsz : isAggD d = true ∨ inf.size = 1) (cs : List Value) (q : Nat) (hlen : q + inf.size ≤ cs.length) (w : World) :
    (part t cs.toArray q).run P w = .ok (asV P t ((cs.drop q).take inf.size)) w := by
  unfold part asV
  simp only [hd]
  by_cases hagg : isAggD d = true
  · simp only [Sem.run_bind, run_isAgg' hd, Result.andThen_ok, hagg, if_true, run_sizeOf' hi]
    show Result.ok _ w = _
    congr 2
    apply Array.ext'
    simp [List.extract_eq_take_drop]
  · have h1 := hsz.resolve_left hagg
    have hq : q < cs.length := by omega
    simp only [Sem.run_bind, run_isAgg' hd, Result.andThen_ok, hagg, Bool.false_eq_true, if_false]
    have h2 : ((cs.drop q).take inf.size).headD undef = cs[q] := by
      rw [h1, List.drop_eq_getElem_cons hq]; rfl
    rw [h2]
    simp [hq]
theorem run_forIn_none (g : Nat → Sem (ForInStep (Option Bool × Unit))) (w : World) : ∀ l : List Nat, (∀ i ∈ l, (g i).run P w = .ok (.yield (none, ())) w) → (forIn l ((none, ()) : Option Bool × Unit) (fun i _ => g i)).run P w = .ok (none, ()) w
  | [], _ => by simp
  | i :: l, h => by
    simp only [List.forIn_cons, Sem.run_bind, h i List.mem_cons_self, Result.andThen_ok]
    exact run_forIn_none g w l fun j hj => h j (List.mem_cons_of_mem _ hj)
theorem eqT_ok (w : World) : ∀ (f : Nat) (t : TypeId) (ks : List CK), eqT P f t = some ks → ∀ d, f ≤ d → ∀ cs, Typed ks cs → (Op.equalIn d t (asV P t cs) (asV P t cs)).run P w = .ok true w
  | 0, t, ks, h, d, hd, cs, hc => by simp [eqT] at h
  | f + 1, t, ks, h, 0, hd, cs, hc => by omega
  | f + 1, t, ks, h, d + 1, hd, cs, hc => by
    simp only [eqT] at h
    split at h
    · rename_i inf hi hu
      split at h
      · cases h
        match cs, hc with
        | [v], ⟨⟨n, hv⟩, _⟩ =>
          subst hv
          simp only [asV, hu, isAggD, Bool.false_eq_true, if_false, List.headD_cons, CK.mk]
          simp [Op.equalIn, run_underlying hu]
      · cases h
    · rename_i inf k hi hu
      split at h
      · cases h
        match cs, hc with
        | [v], ⟨⟨n, hv⟩, _⟩ =>
          subst hv
          simp only [asV, hu, isAggD, Bool.false_eq_true, if_false, List.headD_cons, CK.mk]
          simp [Op.equalIn, run_underlying hu]
      · cases h
    · rename_i inf n e hi hu
      split at h
      · rename_i ks' hks
        split at h
        · rename_i hs
          cases h
          obtain ⟨ie, de, hie, hde, hse, hae⟩ := eqT_info hks
          have hlen : cs.length = n * ks'.length := by rw [hc.len]; simp
          have hpart : ∀ i, i < n → Typed ks' ((cs.drop (i * ie.size)).take ie.size) := by
            intro i hin
            rw [hse]
            exact typed_rep n cs hc i hin
          have hstep : ∀ i, i < n → (Op.equalIn d e (asV P e ((cs.drop (i * ie.size)).take ie.size)) (asV P e ((cs.drop (i * ie.size)).take ie.size))).run P w = .ok true w :=
            fun i hin => eqT_ok w f e ks' hks d (by omega) _ (hpart i hin)
          have hp : ∀ i, i < n → (part e cs.toArray (i * ie.size)).run P w = .ok (asV P e ((cs.drop (i * ie.size)).take ie.size)) w := by
            intro i hin
            refine run_part_raw hie hde hae cs _ ?_ w
            rw [hlen, hse]
            have : (i + 1) * ks'.length ≤ n * ks'.length := Nat.mul_le_mul_right _ hin
            rw [Nat.add_mul] at this
            omega
          simp only [asV, hu, isAggD, if_true]
          simp only [Op.equalIn, Sem.run_bind, run_underlying hu, Result.andThen_ok, run_sizeOf' hie]
          rw [Std.Legacy.Range.forIn_eq_forIn_range', run_forIn_none (fun i => do
            let a ← part e cs.toArray (i * ie.size)
            let b ← part e cs.toArray (i * ie.size)
            let r ← Op.equalIn d e a b
            if (!r) = true then pure (ForInStep.done (some false, ())) else pure (ForInStep.yield (none, ()))) w]
          · simp
          · intro i hi
            have hin : i < n := by
              simp [Std.Legacy.Range.size] at hi
              omega
            simp only [Sem.run_bind, hp i hin, Result.andThen_ok, hstep i hin, Bool.not_true, Bool.false_eq_true, if_false, Sem.run_pure]
        · cases h
      · cases h
    · rename_i inf fs hi hu
      split at h
      · cases h
      · rename_i hheld
        split at h
        · rename_i ks' hks
          split at h
          · cases h
            have hfs : P.fieldsOf t = fs := by simp [Program.fieldsOf, hu]
            simp only [asV, hu, isAggD, if_true]
            rw [run_equalIn_struct w d t _ _ (by rw [hfs]; exact hu) (by simpa using hheld), hfs]
            have key : ∀ (fs : List Field) (off : Nat) (ks : List CK), eqF (eqT P f) fs off = some ks → ∀ cs' : List Value, Typed ks (cs'.drop off) → off ≤ cs'.length → (Op.eqFields d cs'.toArray cs'.toArray fs).run P w = .ok true w := by
              intro fs
              induction fs with
              | nil => intro off ks _ cs' _ _; simp [Op.eqFields]
              | cons fd fs ih =>
                intro off ks h cs' hc hoff
                simp only [eqF] at h
                split at h
                · rename_i hn
                  obtain ⟨hn, rfl⟩ := hn
                  split at h
                  · rename_i k1 hk1
                    simp only [Option.map_eq_some_iff] at h
                    obtain ⟨k2, hk2, rfl⟩ := h
                    obtain ⟨h1, h2⟩ := hc.split
                    obtain ⟨ie, de, hie, hde, hse, hae⟩ := eqT_info hk1
                    have hl := h1.len
                    simp only [List.length_take, List.length_drop] at hl
                    have hp := run_part_raw hie hde hae cs' fd.offset (by omega) w
                    rw [hse] at hp
                    have he := eqT_ok w f fd.type k1 hk1 d (by omega) _ h1
                    simp only [Op.eqFields, hn, ne_eq, not_false_eq_true, if_true, Sem.run_bind, hp, Result.andThen_ok, he, Bool.not_true, Bool.false_eq_true, if_false]
                    rw [List.drop_drop] at h2
                    exact ih _ _ hk2 cs' h2 (by omega)
                  · cases h
                · cases h
            exact key _ 0 _ hks cs (by simpa using hc) (by omega)
          · cases h
        · cases h
    · cases h
end
end Go.SX
