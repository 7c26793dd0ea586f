/- A symbolic executor, part L: statements, and calls. -/
import Derived.Test.YtfnekjeicdhihaaSxK
import Derived.LoopN
import Derived.Scope
import Derived.Still
namespace Go.SX

abbrev TM := List (Option V)
inductive Out where
  | nor (tm : TM) (s : S)
  | exi (id : Nat) (tm : TM) (s : S)
  | gto (l : Nat) (tm : TM) (s : S)
  | ret (tm : TM) (s : S)
  | pan (v : V) (s : S)
  | bad (s : S)
inductive COut where
  | ret (v : V) (s : S)
  | pan (v : V) (s : S)
  | bad (s : S)

def NB (ρ : Env) (l : List Out) : Prop := ∀ s, Out.bad s ∈ l → ¬ PC ρ s.pc
def NBC (ρ : Env) (l : List COut) : Prop := ∀ s, COut.bad s ∈ l → ¬ PC ρ s.pc

/-- What holds behind. -/
def SP (ρ : Env) (W0 : World) (σ : Sig) (D : List Deferred) (l : List Out) : Exit → Act → World → Prop
  | .normal, a, w => a.defers = D ∧ ∃ tm s τ, Out.nor tm s ∈ l ∧ Gam ρ W0 (σ ++ τ) s w ∧ FR ρ (σ ++ τ) tm a
  | .exit id, a, w => a.defers = D ∧ ∃ tm s τ, Out.exi id tm s ∈ l ∧ Gam ρ W0 (σ ++ τ) s w ∧ FR ρ (σ ++ τ) tm a
  | .goto i, a, w => a.defers = D ∧ ∃ tm s τ, Out.gto i tm s ∈ l ∧ Gam ρ W0 (σ ++ τ) s w ∧ FR ρ (σ ++ τ) tm a
  | .ret, a, w => a.defers = D ∧ ∃ tm s τ, Out.ret tm s ∈ l ∧ Gam ρ W0 (σ ++ τ) s w ∧ FR ρ (σ ++ τ) tm a
  | .panic c, a, w => a.defers = D ∧ ∃ v s τ x, Out.pan v s ∈ l ∧ Gam ρ W0 (σ ++ τ) s w ∧ v.val ρ (σ ++ τ) = some x ∧ c = [{ v := x, recovered := false }]
  | _, _, _ => False
def SPC (ρ : Env) (W0 : World) (σ : Sig) (l : List COut) : Ending → World → Prop
  | .returned x, w => ∃ v s τ, COut.ret v s ∈ l ∧ Gam ρ W0 (σ ++ τ) s w ∧ v.val ρ (σ ++ τ) = some x
  | .panicked c, w => ∃ v s τ x, COut.pan v s ∈ l ∧ Gam ρ W0 (σ ++ τ) s w ∧ v.val ρ (σ ++ τ) = some x ∧ c = [{ v := x, recovered := false }]
  | .outgrown, _ => False

section
variable {ρ : Env} {W0 : World} {σ : Sig} {P : Program}

theorem SP.mono {D : List Deferred} {l m : List Out} (h : ∀ o ∈ l, o ∈ m) {e : Exit} {a : Act} {w : World} (hs : SP ρ W0 σ D l e a w) : SP ρ W0 σ D m e a w := by
  cases e <;> simp only [SP] at hs ⊢
  case panic c => obtain ⟨hd, v, s, τ, x, h1, h2⟩ := hs; exact ⟨hd, v, s, τ, x, h _ h1, h2⟩
  all_goals (obtain ⟨hd, tm, s, τ, h1, h2⟩ := hs; exact ⟨hd, tm, s, τ, h _ h1, h2⟩)
theorem SP.more {D : List Deferred} {l : List Out} (τ : Sig) {e : Exit} {a : Act} {w : World} (hs : SP ρ W0 (σ ++ τ) D l e a w) : SP ρ W0 σ D l e a w := by
  cases e <;> simp only [SP] at hs ⊢
  case panic c => obtain ⟨hd, v, s, τ', x, h1, h2⟩ := hs; exact ⟨hd, v, s, τ ++ τ', x, h1, by simpa using h2⟩
  all_goals (obtain ⟨hd, tm, s, τ', h1, h2⟩ := hs; exact ⟨hd, tm, s, τ ++ τ', h1, by simpa using h2⟩)
theorem SPC.more {l : List COut} (τ : Sig) {e : Ending} {w : World} (hs : SPC ρ W0 (σ ++ τ) l e w) : SPC ρ W0 σ l e w := by
  cases e <;> simp only [SPC] at hs ⊢
  case panicked c => obtain ⟨v, s, τ', x, h1, h2⟩ := hs; exact ⟨v, s, τ ++ τ', x, h1, by simpa using h2⟩
  case returned x => obtain ⟨v, s, τ', h1, h2⟩ := hs; exact ⟨v, s, τ ++ τ', h1, by simpa using h2⟩

/-! ### One behind the other -/
def bindO (l : List Out) (k : TM → S → Option (List Out)) : Option (List Out) := match l with
  | [] => some []
  | .nor tm s :: l => match k tm s, bindO l k with
    | some a, some b => some (a ++ b)
    | _, _ => none
  | o :: l => (bindO l k).map (o :: ·)
theorem bindO_nor {k : TM → S → Option (List Out)} : ∀ {l all : List Out}, bindO l k = some all → ∀ {tm : TM} {s : S}, Out.nor tm s ∈ l → ∃ m, k tm s = some m ∧ ∀ o ∈ m, o ∈ all
  | [], all, h, tm, s, hm => by cases hm
  | x :: l, all, h, tm, s, hm => by
    cases x with
    | nor tm' s' =>
      simp only [bindO] at h
      split at h
      · rename_i a b ha hb
        cases h
        rcases List.mem_cons.1 hm with he | hm
        · cases he; exact ⟨a, ha, fun o ho => List.mem_append_left _ ho⟩
        · obtain ⟨m, h1, h2⟩ := bindO_nor hb hm
          exact ⟨m, h1, fun o ho => List.mem_append_right _ (h2 o ho)⟩
      · cases h
    | _ =>
      simp only [bindO, Option.map_eq_some_iff] at h
      obtain ⟨b, hb, rfl⟩ := h
      rcases List.mem_cons.1 hm with he | hm
      · cases he
      · obtain ⟨m, h1, h2⟩ := bindO_nor hb hm
        exact ⟨m, h1, fun o ho => List.mem_cons_of_mem _ (h2 o ho)⟩
def Out.isNor : Out → Bool
  | .nor _ _ => true
  | _ => false
theorem bindO_other {k : TM → S → Option (List Out)} : ∀ {l all : List Out}, bindO l k = some all → ∀ {o : Out}, o ∈ l → o.isNor = false → o ∈ all
  | [], all, h, o, hm, _ => by cases hm
  | x :: l, all, h, o, hm, hn => by
    cases x with
    | nor tm' s' =>
      simp only [bindO] at h
      split at h
      · rename_i a b ha hb
        cases h
        rcases List.mem_cons.1 hm with he | hm
        · subst he; cases hn
        · exact List.mem_append_right _ (bindO_other hb hm hn)
      · cases h
    | _ =>
      simp only [bindO, Option.map_eq_some_iff] at h
      obtain ⟨b, hb, rfl⟩ := h
      rcases List.mem_cons.1 hm with he | hm
      · subst he; exact List.mem_cons_self
      · exact List.mem_cons_of_mem _ (bindO_other hb hm hn)
theorem NB.of_bind {k : TM → S → Option (List Out)} {l all : List Out} (h : bindO l k = some all) (hn : NB ρ all) : NB ρ l := fun s hs => hn s (bindO_other h hs rfl)
theorem NB.sub {l m : List Out} (h : ∀ o ∈ l, o ∈ m) (hn : NB ρ m) : NB ρ l := fun s hs => hn s (h _ hs)

/-- Both ways of a test. -/
def forkO (s : S) (e : E) (k : S → Bool → Option (List Out)) : Option (List Out) :=
  (spl s e).foldr (fun p acc => match k p.1 p.2, acc with
    | some a, some b => some (a ++ b)
    | _, _ => none) (some [])
theorem forkO_ok {s : S} {w : World} (g : Gam ρ W0 σ s w) {e : E} {k : S → Bool → Option (List Out)} {rs : List Out} (h : forkO s e k = some rs) :
    ∃ s' b m, Gam ρ W0 σ s' w ∧ (b = true ↔ e.n ρ ≠ 0) ∧ k s' b = some m ∧ ∀ o ∈ m, o ∈ rs := by
  obtain ⟨p, hp, g', hb⟩ := spl_ok g e
  unfold forkO at h
  revert rs
  generalize spl s e = l at hp
  induction l with
  | nil => cases hp
  | cons q l ih =>
    intro rs h
    simp only [List.foldr_cons] at h
    split at h
    · rename_i a b ha hb'
      cases h
      rcases List.mem_cons.1 hp with rfl | hp
      · exact ⟨_, _, a, g', hb, ha, fun o ho => List.mem_append_left _ ho⟩
      · obtain ⟨s', b', m, h1, h2, h3, h4⟩ := ih hp hb'
        exact ⟨s', b', m, h1, h2, h3, fun o ho => List.mem_append_right _ (h4 o ho)⟩
    · cases h

/-! ### One operation -/
abbrev CallF := Nat → List V → S → Option (List COut)
def CallOK (ρ : Env) (P : Program) (call : CallF) : Prop := ∀ (W0 : World) (f : Nat) (vs : List V) (s : S) (l : List COut), call f vs s = some l → NBC ρ l →
  ∀ (σ : Sig) (w : World) (xs : List Value), Gam ρ W0 σ s w → valL ρ σ vs = some xs → (callFunc f xs.toArray).run P w = .ok (.enter f xs.toArray) w ∧ Calls P f xs.toArray w (SPC ρ W0 σ l)

def ofR (tm : TM) (d : Option Tmp) : R → Out
  | .val v s => .nor (putT tm d v) s
  | .pan v s => .pan v s
  | .bad s => .bad s
def ofC (tm : TM) (d : Option Tmp) : COut → Out
  | .ret v s => .nor (putT tm d v) s
  | .pan v s => .pan v s
  | .bad s => .bad s
def runX (P : Program) (call : CallF) (o : Oper) (tm : TM) (s : S) : Option (List Out) := match o.op with
  | .call { callee := .value fo, args, .. } => match ev tm fo, evL (ev tm) args.toList with
    | some (.fn f cs), some vs => (call f (vs ++ cs) s).map fun l => l.map (ofC tm o.dst)
    | _, _ => none
  | _ => (opX P (ev tm) o s).map fun l => l.map (ofR tm o.dst)

theorem valL_append {l m : List V} {a b : List Value} (h1 : valL ρ σ l = some a) (h2 : valL ρ σ m = some b) : valL ρ σ (l ++ m) = some (a ++ b) := by
  induction l generalizing a with
  | nil => simp only [valL, Option.some.injEq] at h1; subst h1; simpa using h2
  | cons x l ih =>
    simp only [valL] at h1
    split at h1
    · rename_i u v hu hv
      cases h1
      simp only [List.cons_append, valL, hu, ih hv]
    · cases h1

theorem runX_ok {call : CallF} (hcall : CallOK ρ P call) {s : S} {w : World} (g : Gam ρ W0 σ s w) {tm : TM} {a : Act} (hf : FR ρ σ tm a) {o : Oper} {l : List Out} (h : runX P call o tm s = some l) (hn : NB ρ l)
    {K : Act → World → Prop} {Q : Exit → Act → World → Prop}
    (hK : ∀ tm' s' τ a' w', Out.nor tm' s' ∈ l → Gam ρ W0 (σ ++ τ) s' w' → FR ρ (σ ++ τ) tm' a' → a'.defers = a.defers → K a' w')
    (hP : ∀ v s' τ x w', Out.pan v s' ∈ l → Gam ρ W0 (σ ++ τ) s' w' → v.val ρ (σ ++ τ) = some x → Q (.panic [{ v := x, recovered := false }]) a w') : o.wp P a w K Q := by
  have defs : ∀ d v, (a.put d v).defers = a.defers := by intro d v; cases d <;> rfl
  unfold runX at h
  split at h
  · rename_i fo args ts ho
    split at h
    · rename_i f cs vs hfo hvs
      simp only [Option.map_eq_some_iff] at h
      obtain ⟨m, hm, rfl⟩ := h
      have he := hf.ev
      have h1 := he _ _ hfo
      simp only [V.val, Option.map_eq_some_iff] at h1
      obtain ⟨xc, hxc, hfe⟩ := h1
      have h2 := evL_ok he _ _ hvs
      have h3 := valL_append h2 hxc
      have hnb : NBC ρ m := fun s' hs => hn s' (List.mem_map.2 ⟨_, hs, rfl⟩)
      obtain ⟨h4, h5⟩ := hcall W0 f _ s m hm hnb σ w _ g h3
      unfold Oper.wp
      have hrun : (execOp a.eval o).run P w = .ok (.enter f (args.toList.map a.eval ++ xc).toArray) w := by
        simp only [execOp, ho, resolve, ← hfe, Deferred.ofValue, Sem.run_bind, Sem.run_pure, Result.andThen_ok, invoke]
        rw [← h4]
        congr 2
        apply Array.ext'
        simp
      rw [hrun, Oper.upon_enter]
      refine h5.mono fun e w' hs => ?_
      cases e with
      | returned x =>
        obtain ⟨v, s', τ, e1, e2, e3⟩ := hs
        exact hK _ _ τ _ _ (List.mem_map.2 ⟨_, e1, rfl⟩) e2 ((hf.ext τ).put o.dst e3) (defs _ _)
      | panicked c =>
        obtain ⟨v, s', τ, x, e1, e2, e3, rfl⟩ := hs
        exact hP _ _ τ x _ (List.mem_map.2 ⟨_, e1, rfl⟩) e2 e3
      | outgrown => exact hs.elim
    · cases h
  · simp only [Option.map_eq_some_iff] at h
    obtain ⟨m, hm, rfl⟩ := h
    obtain ⟨r, hr, hrs⟩ := opX_ok g hf.ev hm
    unfold Oper.wp
    cases r with
    | val v s' =>
      obtain ⟨x, w', τ, hrun, e2, e3⟩ := hrs
      have hmem : Out.nor (putT tm o.dst v) s' ∈ m.map (ofR tm o.dst) := List.mem_map.2 ⟨_, hr, rfl⟩
      rcases hrun with hrun | ⟨hrun, rfl⟩
      · rw [hrun, Oper.upon_value]; exact hK _ _ τ _ _ hmem e3 ((hf.ext τ).put o.dst e2) (defs _ _)
      · rw [hrun, Oper.upon_skip]; exact hK _ _ τ _ _ hmem e3 ((hf.ext τ).put o.dst e2) (defs _ _)
    | pan v s' =>
      obtain ⟨x, w', τ, hrun, e2, e3⟩ := hrs
      rw [hrun, Oper.upon_panic]
      exact hP _ _ τ x _ (List.mem_map.2 ⟨_, hr, rfl⟩) e3 e2
    | bad s' => exact absurd hrs (hn s' (List.mem_map.2 ⟨_, hr, rfl⟩))

/-- An operation of a region, with its guard. -/
def stepX (P : Program) (call : CallF) (ops : Array Oper) (i : Nat) (tm : TM) (s : S) : Option (List Out) := match ops[i]? with
  | none => some [.nor tm s]
  | some o => match o.guard with
    | none => runX P call o tm s
    | some (j, want) => match (ops[j]?).bind (·.dst) with
      | none => none
      | some d => match (tm[d]?).getD none with
        | some (.bool e) => forkO s e fun s' b => if b = want then runX P call o tm s' else some [.nor (putT tm o.dst (.tup [])) s']
        | some (.tup []) => some [.nor (putT tm o.dst (.tup [])) s]
        | _ => none
theorem stepX_ok {call : CallF} (hcall : CallOK ρ P call) {ops : Array Oper} {i : Nat} {s : S} {w : World} (g : Gam ρ W0 σ s w) {tm : TM} {a : Act} (hf : FR ρ σ tm a) {l : List Out} (h : stepX P call ops i tm s = some l) (hn : NB ρ l)
    {K : Act → World → Prop} {Q : Exit → Act → World → Prop}
    (hK : ∀ tm' s' τ a' w', Out.nor tm' s' ∈ l → Gam ρ W0 (σ ++ τ) s' w' → FR ρ (σ ++ τ) tm' a' → a'.defers = a.defers → K a' w')
    (hP : ∀ v s' τ x w', Out.pan v s' ∈ l → Gam ρ W0 (σ ++ τ) s' w' → v.val ρ (σ ++ τ) = some x → Q (.panic [{ v := x, recovered := false }]) a w') : wpOp P ops Q i K a w := by
  have defs : ∀ d v, (a.put d v).defers = a.defers := by intro d v; cases d <;> rfl
  have skip : ∀ {s' : S} (o : Oper), Gam ρ W0 σ s' w → Out.nor (putT tm o.dst (.tup [])) s' ∈ l → K (a.put o.dst undef) w := by
    intro s' o g' hm
    refine hK _ _ [] _ _ hm (by rw [List.append_nil]; exact g') (by rw [List.append_nil]; exact hf.put o.dst (by rfl)) (defs _ _)
  unfold stepX at h
  unfold wpOp
  split at h
  · rename_i ho
    cases h
    simp only [ho]
    exact hK _ _ [] _ _ (List.mem_singleton.2 rfl) (by rw [List.append_nil]; exact g) (by rw [List.append_nil]; exact hf) rfl
  · rename_i o ho
    simp only [ho]
    split at h
    · rename_i hg
      have hw : Region.wanted o (yielded ops a.tmps) = true := by simp [Region.wanted, hg]
      rw [if_pos hw]
      exact .inl (runX_ok hcall g hf h hn hK hP)
    · rename_i j want hg
      split at h
      · cases h
      · rename_i d hd
        have hy : ∀ v, (tm[d]?).getD none = some v → v.val ρ σ = a.tmps[d]? := by
          intro v hv
          cases ht : tm[d]? with
          | none => rw [ht] at hv; cases hv
          | some x => rw [ht] at hv; simp only [Option.getD_some] at hv; subst hv; exact hf.2 _ _ ht
        split at h
        · rename_i e he
          have h1 := hy _ he
          simp only [V.val] at h1
          obtain ⟨s', b, m, g', hb, hk, hsub⟩ := forkO_ok g h
          have hyy : yielded ops a.tmps j = some b := by
            have hbe : (e.n ρ != 0) = b := by
              by_cases h0 : e.n ρ = 0
              · have : b = false := by cases b <;> simp_all
                simp [h0, this]
              · have : b = true := hb.2 h0
                simp [h0, this]
            simp only [yielded, hd, Option.bind_some, ← h1, hbe]
          split at hk
          · rename_i hbw
            have hw : Region.wanted o (yielded ops a.tmps) = true := by simp [Region.wanted, hg, hyy, hbw]
            rw [if_pos hw]
            exact .inl (runX_ok hcall g' hf hk (hn.sub hsub) (fun tm' s'' τ a' w' hm => hK tm' s'' τ a' w' (hsub _ hm)) (fun v s'' τ x w' hm => hP v s'' τ x w' (hsub _ hm)))
          · rename_i hbw
            cases hk
            have hw : ¬ Region.wanted o (yielded ops a.tmps) = true := by simp [Region.wanted, hg, hyy, hbw]
            rw [if_neg hw]
            exact skip o g' (hsub _ (List.mem_singleton.2 rfl))
        · rename_i he
          have h1 := hy _ he
          cases h
          have hyy : yielded ops a.tmps j = none := by
            simp only [yielded, hd, Option.bind_some, ← h1]
            rfl
          have hw : ¬ Region.wanted o (yielded ops a.tmps) = true := by simp [Region.wanted, hg, hyy]
          rw [if_neg hw]
          exact skip o g (List.mem_singleton.2 rfl)
        · cases h
end
end Go.SX
