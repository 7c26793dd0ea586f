/- A symbolic executor, part N: whole functions. -/
import Derived.Test.YtfnekjeicdhihaaSxM
import Derived.ScopeJumps
namespace Go.SX

/-! ### What is no longer of use is forgotten -/
mutual
def V.refs : V → List Nat
  | .ptr b _ _ _ => [b]
  | .slice b _ _ _ _ _ => [b]
  | .ms _ b _ => [b]
  | .mapr b => [b]
  | .fn _ cs => refsL cs
  | .iface _ v => v.refs
  | .agg l => refsL l
  | .tup l => refsL l
  | _ => []
def refsL : List V → List Nat
  | [] => []
  | x :: xs => x.refs ++ refsL xs
end
def reach (H : List Chunk) : Nat → List Nat → List Nat
  | 0, l => l
  | n + 1, l => reach H n ((H.filter fun c => l.contains c.id).foldl (fun acc c => (refsL c.segs).foldl (fun acc b => if acc.contains b then acc else b :: acc) acc) l)
/-- A fresh block from number 'base' on that nothing leads to any more. -/
def gcS (s : S) (base : Nat) (root : V) : S :=
  let old := (s.H.filter fun c => decide (c.id < base)).map (·.id)
  let l := reach s.H 4 (root.refs ++ old)
  { s with H := s.H.filter fun c => !c.fresh || l.contains c.id }

section
variable {ρ : Env} {W0 : World} {σ : Sig} {P : Program}

theorem Gam.filter {s : S} {w : World} (g : Gam ρ W0 σ s w) (p : Chunk → Bool) (hp : ∀ c, p c = false → c.fresh = true) : Gam ρ W0 σ { s with H := s.H.filter p } w where
  pc := g.pc
  len := g.len
  ids := (List.Sublist.map _ List.filter_sublist).nodup g.ids
  ch := fun c hc => g.ch c (List.mem_filter.1 hc).1
  sep := fun c hc d hd => g.sep c (List.mem_filter.1 hc).1 d (List.mem_filter.1 hd).1
  size := g.size
  tape := g.tape
  os := g.os
  out := g.out
  kept := fun k hk h => g.kept k hk fun c hc ho => by
    cases hpc : p c with
    | true => exact h c (List.mem_filter.2 ⟨hc, hpc⟩) ho
    | false =>
      obtain ⟨k', o, cs, e1, e2, e3, e4, _⟩ := g.ch c hc
      have := e4 (hp c hpc)
      simp only [blk, e1, Option.map_some, ne_eq, Option.some.injEq]
      omega
theorem Gam.gc {s : S} {w : World} (g : Gam ρ W0 σ s w) (base : Nat) (root : V) : Gam ρ W0 σ (gcS s base root) w :=
  g.filter _ fun c hc => by
    simp only [Bool.or_eq_false_iff, Bool.not_eq_false'] at hc
    exact hc.1

/-! ### Results -/
def resOne (P : Program) (tm : TM) (s : S) : ResultVar → Option V
  | .tmp t => (tm[t]?).getD none
  | .cell a t => match (tm[a]?).getD none with
    | some (.ptr b c st i) => loadV P s t b c st i
    | _ => none
def resX (P : Program) (fn : Func) (tm : TM) (s : S) : Option V := match fn.results.toList.mapM (resOne P tm s) with
  | some [v] => some v
  | some l => some (.tup l)
  | none => none
def resV (tmps : Array Value) : ResultVar → Sem Value
  | .tmp t => pure (tmps.getD t undef)
  | .cell u t => do loadVar t (← asAddr (tmps.getD u undef))
theorem results_eq (fn : Func) (tmps : Array Value) : results fn tmps = (do let vs ← fn.results.mapM (resV tmps); pure (if h : vs.size = 1 then vs[0] else .tuple vs)) := rfl
theorem resOne_ok {s : S} {w : World} (g : Gam ρ W0 σ s w) {tm : TM} {a : Act} (hf : FR ρ σ tm a) {r : ResultVar} {v : V} (h : resOne P tm s r = some v) :
    ∃ x, v.val ρ σ = some x ∧ (resV a.tmps r).run P w = .ok x w := by
  have hget : ∀ t v, (tm[t]?).getD none = some v → v.val ρ σ = some (a.tmps.getD t undef) := fun t v ht => hf.ev (.tmp t) v ht
  cases r with
  | tmp t => exact ⟨_, hget t v h, rfl⟩
  | cell u t =>
    simp only [resOne] at h
    split at h
    · rename_i b c st i hu
      have h1 := hget _ _ hu
      simp only [V.val, Option.map_eq_some_iff] at h1
      obtain ⟨ad, ha, hx⟩ := h1
      obtain ⟨x, h2, h3⟩ := loadV_ok g h ha
      refine ⟨x, h2, ?_⟩
      simp only [resV, ← hx, asAddr, Sem.run_bind, Sem.run_pure, Result.andThen_ok]
      exact h3
    · cases h
theorem resL_ok {s : S} {w : World} (g : Gam ρ W0 σ s w) {tm : TM} {a : Act} (hf : FR ρ σ tm a) : ∀ {rs : List ResultVar} {l : List V}, rs.mapM (resOne P tm s) = some l →
    ∃ xs, valL ρ σ l = some xs ∧ (rs.mapM (resV a.tmps)).run P w = .ok xs w
  | [], l, h => by
    simp only [List.mapM_nil, Option.pure_def, Option.some.injEq] at h
    subst h
    exact ⟨[], rfl, by simp⟩
  | r :: rs, l, h => by
    simp only [List.mapM_cons, Option.bind_eq_bind, Option.pure_def, Option.bind_eq_some_iff, Option.some.injEq] at h
    obtain ⟨v, hv, l', hl', rfl⟩ := h
    obtain ⟨x, h1, h2⟩ := resOne_ok g hf hv
    obtain ⟨xs, h3, h4⟩ := resL_ok g hf hl'
    refine ⟨x :: xs, by simp only [valL, h1, h3], ?_⟩
    rw [List.mapM_cons, Sem.run_bind, h2, Result.andThen_ok, Sem.run_bind, h4, Result.andThen_ok]
    rfl
theorem resX_ok {s : S} {w : World} (g : Gam ρ W0 σ s w) {tm : TM} {a : Act} (hf : FR ρ σ tm a) {fn : Func} {v : V} (h : resX P fn tm s = some v) : ∃ x, v.val ρ σ = some x ∧ (results fn a.tmps).run P w = .ok x w := by
  unfold resX at h
  have hmap : ∀ xs : List Value, (fn.results.toList.mapM (resV a.tmps)).run P w = .ok xs w →
      (results fn a.tmps).run P w = .ok (if h : xs.toArray.size = 1 then xs.toArray[0] else .tuple xs.toArray) w := by
    intro xs hx
    rw [results_eq, Array.mapM_eq_mapM_toList, Sem.run_bind, Sem.run_map, hx]
    rfl
  split at h
  · rename_i u hu
    cases h
    obtain ⟨xs, h1, h2⟩ := resL_ok g hf hu
    simp only [valL] at h1
    split at h1
    · rename_i p q hp hq
      cases h1
      simp only [Option.some.injEq] at hq
      subst hq
      refine ⟨p, hp, ?_⟩
      rw [hmap _ h2]
      simp
    · cases h1
  · rename_i l hne hl
    cases h
    obtain ⟨xs, h1, h2⟩ := resL_ok g hf hl
    refine ⟨.tuple xs.toArray, by simp [V.val, h1], ?_⟩
    rw [hmap _ h2]
    have hlen : ∀ (l : List V) (xs : List Value), valL ρ σ l = some xs → xs.length = l.length := by
      intro l
      induction l with
      | nil => intro xs h; simp only [valL, Option.some.injEq] at h; subst h; rfl
      | cons y l ih =>
        intro xs h
        simp only [valL] at h
        split at h
        · rename_i p q hp hq
          cases h
          simp [ih _ hq]
        · cases h
    have h3 := hlen _ _ h1
    have h4 : xs.length ≠ 1 := by
      intro e
      rw [h3] at e
      obtain ⟨y, hy⟩ := List.length_eq_one_iff.1 e
      exact hne y hy
    simp [h4]
  · cases h

/-! ### Statements -/
def exitB (id : Nat) : Out → Out
  | .exi id' tm s => if id' = id then .nor tm s else .exi id' tm s
  | o => o
def loopX (body : TM → S → Option (List Out)) : Nat → TM → S → Option (List Out)
  | 0, _, _ => none
  | n + 1, tm, s => match body tm s with
    | some l => bindO l fun tm s => loopX body n tm s
    | none => none
def endOne (P : Program) (fn : Func) (base : Nat) : Out → Option COut
  | .nor tm s | .ret tm s => (resX P fn tm s).map fun v => .ret v (gcS s base v)
  | .pan v s => some (.pan v (gcS s base v))
  | .bad s => some (.bad s)
  | .exi _ _ _ | .gto _ _ _ => none
def sameC : COut → COut → Bool
  | .ret v s, .ret v' s' => v.same v' && s.nx == s'.nx && decide (s.pc = s'.pc) && sameH s.H s'.H
  | .pan v s, .pan v' s' => v.same v' && s.nx == s'.nx && decide (s.pc = s'.pc) && sameH s.H s'.H
  | .bad s, .bad s' => s.nx == s'.nx && decide (s.pc = s'.pc) && sameH s.H s'.H
  | _, _ => false
theorem sameS_eq {s s' : S} (h1 : s.nx = s'.nx) (h2 : s.pc = s'.pc) (h3 : sameH s.H s'.H = true) : s = s' := by
  cases s; cases s'
  simp only at h1 h2 h3
  rw [h1, h2, sameH_eq h3]
theorem sameC_eq {x y : COut} (h : sameC x y = true) : x = y := by
  unfold sameC at h
  split at h
  · simp only [Bool.and_eq_true, beq_iff_eq, decide_eq_true_eq] at h
    rw [V.same_eq _ _ h.1.1.1, sameS_eq h.1.1.2 h.1.2 h.2]
  · simp only [Bool.and_eq_true, beq_iff_eq, decide_eq_true_eq] at h
    rw [V.same_eq _ _ h.1.1.1, sameS_eq h.1.1.2 h.1.2 h.2]
  · simp only [Bool.and_eq_true, beq_iff_eq, decide_eq_true_eq] at h
    rw [sameS_eq h.1.1 h.1.2 h.2]
  · cases h
/-- Each once. -/
def onceC : List COut → List COut
  | [] => []
  | x :: xs => if xs.any (fun y => sameC x y) = true then onceC xs else x :: onceC xs
theorem onceC_mem : ∀ {l : List COut} {x : COut}, x ∈ l → x ∈ onceC l
  | [], _, h => nomatch h
  | y :: ys, x, h => by
    simp only [onceC]
    split
    · rename_i ha
      rcases List.mem_cons.1 h with rfl | h
      · obtain ⟨z, hz, he⟩ := List.any_eq_true.1 ha
        rw [sameC_eq he]
        exact onceC_mem hz
      · exact onceC_mem h
    · rcases List.mem_cons.1 h with rfl | h
      · exact List.mem_cons_self
      · exact List.mem_cons_of_mem _ (onceC_mem h)
theorem onceC_sub : ∀ {l : List COut} {x : COut}, x ∈ onceC l → x ∈ l
  | [], _, h => nomatch h
  | y :: ys, x, h => by
    simp only [onceC] at h
    split at h
    · exact List.mem_cons_of_mem _ (onceC_sub h)
    · rcases List.mem_cons.1 h with rfl | h
      · exact List.mem_cons_self
      · exact List.mem_cons_of_mem _ (onceC_sub h)
def callOf0 (P : Program) (K : CallF) (rec : Code → TM → S → Option (List Out)) : CallF := fun f vs s => match K f vs s with
  | some l => some l
  | none => match P.funcs[f]? with
    | some fn => match fn.body with
      | some c => match rec c (vs.map some ++ List.replicate (fn.ntmps - vs.length) (some (.tup []))) s with
        | some l => (l.mapM (endOne P fn s.nx)).map onceC
        | none => none
      | none => none
    | none => none
def COut.pc : COut → List E
  | .ret _ s | .pan _ s | .bad s => s.pc
def canonC (nb : Nat) : COut → COut
  | .ret v s => match canon nb (fun _ => true) [some v] s with
    | some ([some v0], s0) => .ret v0 s0
    | _ => .ret v s
  | .pan v s => match canon nb (fun _ => true) [some v] s with
    | some ([some v0], s0) => .pan v0 s0
    | _ => .pan v s
  | .bad s => .bad s
def canonCL (nb : Nat) (l : List COut) : List COut := match l with
  | [] => []
  | [x] => [x]
  | l => onceC ((l.filter fun o => !neverS o.pc).map (canonC nb))
def canonCall (on : Bool) (call : CallF) : CallF := if on = true then fun f vs s => (call f vs s).map (canonCL s.nx) else call
theorem canonCL_nb {nb : Nat} {l : List COut} (hn : NBC ρ (canonCL nb l)) : NBC ρ l := by
  unfold canonCL at hn
  split at hn
  · exact hn
  · exact hn
  · intro s hs hp
    refine hn s (onceC_mem (List.mem_map.2 ⟨.bad s, List.mem_filter.2 ⟨hs, ?_⟩, rfl⟩)) hp
    have := never_ok (pc := (COut.bad s).pc) hp
    rw [this]; rfl
theorem canonCL_ok {nb : Nat} (hl : σ.length = nb) {l : List COut} {e : Ending} {w : World} (hs : SPC ρ W0 σ l e w) : SPC ρ W0 σ (canonCL nb l) e w := by
  have key : ∀ {o : COut}, o ∈ l → PC ρ o.pc → canonC nb o ∈ onceC ((l.filter fun o => !neverS o.pc).map (canonC nb)) := fun {o} ho hp =>
    onceC_mem (List.mem_map.2 ⟨o, List.mem_filter.2 ⟨ho, by rw [never_ok hp]; rfl⟩, rfl⟩)
  have key2 : ∀ {v : V} {s : S} {τ : Sig} {x : Value}, Gam ρ W0 (σ ++ τ) s w → v.val ρ (σ ++ τ) = some x → ∀ v0 s0, canon nb (fun _ => true) [some v] s = some ([some v0], s0) → ∃ τ0, Gam ρ W0 (σ ++ τ0) s0 w ∧ v0.val ρ (σ ++ τ0) = some x := by
    intro v s τ x g hv v0 s0 hc
    obtain ⟨τ0, h1, _, h3⟩ := canon_ok (l := [x]) hc hl g (fun i u hi => by
      rcases i with _ | i
      · simp only [List.getElem?_cons_zero, Option.some.injEq] at hi; subst hi; exact hv
      · simp at hi)
    exact ⟨τ0, h1, h3 0 v0 rfl⟩
  unfold canonCL
  split
  · exact hs
  · exact hs
  · cases e with
    | returned x =>
      obtain ⟨v, s, τ, hm, g, hv⟩ := hs
      have hk := key hm g.pc
      simp only [canonC] at hk
      split at hk
      · rename_i v0 s0 hc
        obtain ⟨τ0, h1, h2⟩ := key2 g hv v0 s0 hc
        exact ⟨v0, s0, τ0, hk, h1, h2⟩
      · exact ⟨v, s, τ, hk, g, hv⟩
    | panicked c =>
      obtain ⟨v, s, τ, x, hm, g, hv, hc0⟩ := hs
      have hk := key hm g.pc
      simp only [canonC] at hk
      split at hk
      · rename_i v0 s0 hc
        obtain ⟨τ0, h1, h2⟩ := key2 g hv v0 s0 hc
        exact ⟨v0, s0, τ0, x, hk, h1, h2, hc0⟩
      · exact ⟨v, s, τ, x, hk, g, hv, hc0⟩
    | outgrown => exact hs.elim
theorem canonCall_ok {on : Bool} {call : CallF} (hc : CallOK ρ P call) : CallOK ρ P (canonCall on call) := by
  unfold canonCall
  split
  case isFalse => exact hc
  intro W0 f vs s l h hn σ w xs g hv
  simp only [Option.map_eq_some_iff] at h
  obtain ⟨m, hm, rfl⟩ := h
  obtain ⟨h1, h2⟩ := hc W0 f vs s m hm (canonCL_nb hn) σ w xs g hv
  exact ⟨h1, h2.mono fun e w' hs => canonCL_ok g.len hs⟩
def callOf (on : Bool) (P : Program) (K : CallF) (rec : Code → TM → S → Option (List Out)) : CallF := canonCall on (callOf0 P K rec)
def Out.label : Out → Option Nat
  | .gto i _ _ => some i
  | _ => none
/-- Behind a jump to label number i. -/
def scopeO (i : Nat) (k : TM → S → Option (List Out)) : List Out → Option (List Out)
  | [] => some []
  | .gto j tm s :: l => if j = i then match k tm s, scopeO i k l with
      | some a, some b => if (a.findSome? Out.label).isNone = true then some (a ++ b) else none
      | _, _ => none
    else none
  | o :: l => (scopeO i k l).map (o :: ·)
theorem scopeO_gto {i : Nat} {k : TM → S → Option (List Out)} : ∀ {l m : List Out}, scopeO i k l = some m → ∀ {j : Nat} {tm : TM} {s : S}, Out.gto j tm s ∈ l → j = i ∧ ∃ a, k tm s = some a ∧ a.findSome? Out.label = none ∧ ∀ o ∈ a, o ∈ m
  | [], m, h, j, tm, s, hm => nomatch hm
  | o :: l, m, h, j, tm, s, hm => by
    cases o with
    | gto j' tm' s' =>
      simp only [scopeO] at h
      split at h
      · rename_i hj
        split at h
        · rename_i a b ha hb
          split at h
          · rename_i hn
            cases h
            rcases List.mem_cons.1 hm with he | hm
            · cases he
              exact ⟨hj, a, ha, by simpa using hn, fun o ho => List.mem_append_left _ ho⟩
            · obtain ⟨h1, a', h2, h3, h4⟩ := scopeO_gto hb hm
              exact ⟨h1, a', h2, h3, fun o ho => List.mem_append_right _ (h4 o ho)⟩
          · cases h
        · cases h
      · cases h
    | _ =>
      simp only [scopeO, Option.map_eq_some_iff] at h
      obtain ⟨b, hb, rfl⟩ := h
      rcases List.mem_cons.1 hm with he | hm
      · cases he
      · obtain ⟨h1, a', h2, h3, h4⟩ := scopeO_gto hb hm
        exact ⟨h1, a', h2, h3, fun o ho => List.mem_cons_of_mem _ (h4 o ho)⟩
theorem scopeO_other {i : Nat} {k : TM → S → Option (List Out)} : ∀ {l m : List Out}, scopeO i k l = some m → ∀ {o : Out}, o ∈ l → o.label = none → o ∈ m
  | [], m, h, o, hm, _ => nomatch hm
  | x :: l, m, h, o, hm, hl => by
    cases x with
    | gto j' tm' s' =>
      simp only [scopeO] at h
      split at h
      · split at h
        · rename_i a b ha hb
          split at h
          · cases h
            rcases List.mem_cons.1 hm with he | hm
            · subst he; simp [Out.label] at hl
            · exact List.mem_append_right _ (scopeO_other hb hm hl)
          · cases h
        · cases h
      · cases h
    | _ =>
      simp only [scopeO, Option.map_eq_some_iff] at h
      obtain ⟨b, hb, rfl⟩ := h
      rcases List.mem_cons.1 hm with he | hm
      · subst he; exact List.mem_cons_self
      · exact List.mem_cons_of_mem _ (scopeO_other hb hm hl)
theorem label_none {l : List Out} (h : l.findSome? Out.label = none) {i : Nat} {tm : TM} {s : S} (hm : Out.gto i tm s ∈ l) : False := by
  rw [List.findSome?_eq_none_iff] at h
  have := h _ hm
  simp [Out.label] at this
def sx (P : Program) (K : CallF) : Nat → Code → TM → S → Option (List Out)
  | 0, _, _, _ => none
  | n + 1, c, tm, s => match c with
    | .skip => some [.nor tm s]
    | .label _ => some [.nor tm s]
    | .region _ ops draw => if draw = true then (if Region.noSelect ops = true then drawX P (callOf (decide (1000 < n)) P K (sx P K n)) (decide (1000 < n)) s.nx ops ops.size [(Array.replicate ops.size false, tm, s)] else none)
        else opsX P (callOf (decide (1000 < n)) P K (sx P K n)) ops (List.range ops.size) tm s
    | .seq a b => match sx P K n a tm s with
      | some l => bindO l fun tm s => sx P K n b tm s
      | none => none
    | .cond c a b => match ev tm c with
      | some (.bool e) => forkO s e fun s t => sx P K n (if t = true then a else b) tm s
      | _ => none
    | .block id c => (sx P K n c tm s).map fun l => l.map (exitB id)
    | .loop c => loopX (sx P K n c) n tm s
    | .exit id => some [.exi id tm s]
    | .ret => some [.ret tm s]
    | .goto i => some [.gto i tm s]
    | .scope c => match sx P K n c tm s with
      | some l => match l.findSome? Out.label with
        | none => some l
        | some i => match findLabel c i with
          | some rest => scopeO i (sx P K n rest) l
          | none => none
      | none => none
    | _ => none

theorem mapM_mem {α β : Type} {f : α → Option β} : ∀ {l : List α} {m : List β}, l.mapM f = some m → ∀ x ∈ l, ∃ y ∈ m, f x = some y
  | [], m, h, x, hx => nomatch hx
  | a :: l, m, h, x, hx => by
    simp only [List.mapM_cons, Option.bind_eq_bind, Option.pure_def, Option.bind_eq_some_iff, Option.some.injEq] at h
    obtain ⟨b, hb, m', hm', rfl⟩ := h
    rcases List.mem_cons.1 hx with rfl | hx
    · exact ⟨b, List.mem_cons_self, hb⟩
    · obtain ⟨y, hy, hf⟩ := mapM_mem hm' x hx
      exact ⟨y, List.mem_cons_of_mem _ hy, hf⟩

/-- No function of the program bears the one name that the machine looks for. -/
def named (P : Program) : Bool := P.funcs.toList.all fun fn => fn.body.isNone || !(fn.name == "runtime.NumGoroutine")

theorem sp_here {D : List Deferred} {l : List Out} {tm : TM} {s : S} {a : Act} {w : World} (hm : Out.nor tm s ∈ l) (g : Gam ρ W0 σ s w) (hf : FR ρ σ tm a) (hd : a.defers = D) : SP ρ W0 σ D l .normal a w :=
  ⟨hd, tm, s, [], hm, by rw [List.append_nil]; exact g, by rw [List.append_nil]; exact hf⟩

/-- The executor is right about a code. -/
def CodeOK (ρ : Env) (P : Program) (rec : Code → TM → S → Option (List Out)) : Prop := ∀ (c : Code) (tm : TM) (s : S) (l : List Out), rec c tm s = some l → NB ρ l → ∀ (W0 : World) (σ : Sig) (a : Act) (w : World),
  Gam ρ W0 σ s w → FR ρ σ tm a → c.wp P (SP ρ W0 σ a.defers l) a w

theorem callOf_ok {K : CallF} (hK : CallOK ρ P K) (hname : named P = true) {rec : Code → TM → S → Option (List Out)} (hrec : CodeOK ρ P rec) {on : Bool} : CallOK ρ P (callOf on P K rec) := by
  refine canonCall_ok ?_
  intro W0 f vs s l h hn σ w xs g hv
  unfold callOf0 at h
  split at h
  · rename_i l' hk
    cases h
    exact hK W0 f vs s l hk hn σ w xs g hv
  · split at h
    · rename_i fn hfn
      split at h
      · rename_i c hc
        split at h
        · rename_i m hm
          simp only [Option.map_eq_some_iff] at h
          obtain ⟨l0, h, rfl⟩ := h
          have hnm : (fn.name == "runtime.NumGoroutine") = false := by
            have h1 := List.all_eq_true.1 hname fn (by
              rw [Array.mem_toList_iff]
              exact Array.mem_of_getElem? hfn)
            simpa [hc] using h1
          have hnm' : ¬ fn.name = "runtime.NumGoroutine" := by simpa using hnm
          refine ⟨by simp [callFunc, hfn, hnm', hc], ?_⟩
          have hlen : xs.length = vs.length := by
            have : ∀ (l : List V) (xs : List Value), valL ρ σ l = some xs → xs.length = l.length := by
              intro l
              induction l with
              | nil => intro xs h; simp only [valL, Option.some.injEq] at h; subst h; rfl
              | cons y l ih =>
                intro xs h
                simp only [valL] at h
                split at h
                · rename_i p q hp hq
                  cases h
                  simp [ih _ hq]
                · cases h
            exact this _ _ hv
          have hfr : FR ρ σ (vs.map some ++ List.replicate (fn.ntmps - vs.length) (some (.tup []))) { tmps := xs.toArray ++ Array.replicate (fn.ntmps - xs.toArray.size) undef, defers := [] } := by
            refine ⟨by simp [hlen], fun i v hi => ?_⟩
            dsimp only
            by_cases hlt : i < vs.length
            · rw [List.getElem?_append_left (by simpa using hlt), List.getElem?_map] at hi
              simp only [Option.map_eq_some_iff, Option.some.injEq] at hi
              obtain ⟨u, hu, rfl⟩ := hi
              obtain ⟨x, h1, h2⟩ := valL_get _ _ _ _ hv hu
              rw [Array.getElem?_append_left (by simpa [hlen] using hlt), h2]
              simpa using h1.symm
            · rw [List.getElem?_append_right (by simpa using Nat.le_of_not_lt hlt)] at hi
              have hi2 := List.getElem?_eq_some_iff.1 hi
              obtain ⟨hi3, hi4⟩ := hi2
              simp only [List.getElem_replicate, Option.some.injEq] at hi4
              subst hi4
              simp only [List.length_map, List.length_replicate] at hi3
              rw [Array.getElem?_append_right (by simpa [hlen] using Nat.le_of_not_lt hlt)]
              simp only [V.val, valL, Option.map_some, List.size_toArray, hlen, Array.getElem?_replicate]
              rw [if_pos (by omega)]
              rfl
          have hnb : NB ρ m := fun s' hs => by
            obtain ⟨y, hy, he⟩ := mapM_mem h _ hs
            simp only [endOne, Option.some.injEq] at he
            subst he
            exact hn s' (onceC_mem hy)
          refine calls_of_wp hfn hc (wp_mono (hrec c _ s m hm hnb W0 σ _ w g hfr) fun e a' w' hs => ?_)
          have fin : ∀ tm s' τ, (Out.nor tm s' ∈ m ∨ Out.ret tm s' ∈ m) → Gam ρ W0 (σ ++ τ) s' w' → FR ρ (σ ++ τ) tm a' → ∃ v, (results fn a'.tmps).run P w' = .ok v w' ∧ SPC ρ W0 σ (onceC l0) (.returned v) w' := by
            intro tm s' τ hmem g' hf'
            have : ∃ v, resX P fn tm s' = some v ∧ COut.ret v (gcS s' s.nx v) ∈ onceC l0 := by
              rcases hmem with hmem | hmem
              all_goals
                obtain ⟨y, hy, he⟩ := mapM_mem h _ hmem
                simp only [endOne, Option.map_eq_some_iff] at he
                obtain ⟨v, hv, rfl⟩ := he
                exact ⟨v, hv, onceC_mem hy⟩
            obtain ⟨v, hv, hmem'⟩ := this
            obtain ⟨x, h1, h2⟩ := resX_ok g' hf' hv
            exact ⟨x, h2, v, _, τ, hmem', g'.gc s.nx v, h1⟩
          cases e <;> simp only [SP] at hs <;> simp only [bodyPost]
          case normal =>
            obtain ⟨hd, tm, s', τ, h1, h2, h3⟩ := hs
            exact ⟨hd, fin tm s' τ (.inl h1) h2 h3⟩
          case ret =>
            obtain ⟨hd, tm, s', τ, h1, h2, h3⟩ := hs
            exact ⟨hd, fin tm s' τ (.inr h1) h2 h3⟩
          case panic ch =>
            obtain ⟨hd, v, s', τ, x, h1, h2, h3, rfl⟩ := hs
            obtain ⟨y, hy, he⟩ := mapM_mem h _ h1
            simp only [endOne, Option.some.injEq] at he
            subst he
            exact ⟨hd, v, _, τ, x, onceC_mem hy, h2.gc s.nx v, h3, rfl⟩
          case exit id =>
            obtain ⟨hd, tm, s', τ, h1, h2, h3⟩ := hs
            obtain ⟨y, hy, he⟩ := mapM_mem h _ h1
            simp [endOne] at he
          case goto id =>
            obtain ⟨hd, tm, s', τ, h1, h2, h3⟩ := hs
            obtain ⟨y, hy, he⟩ := mapM_mem h _ h1
            simp [endOne] at he
        · cases h
      · cases h
    · cases h

theorem sxr_ok {K : CallF} (hK : CallOK ρ P K) (hname : named P = true) (hmix : P.follows .mixedOrders = true) : ∀ n, CodeOK ρ P (sx P K n)
  | 0 => fun c tm s l h => by simp [sx] at h
  | n + 1 => by
    intro c tm s l h hn W0 σ a w g hf
    have ih := sxr_ok hK hname hmix n
    have hcall := callOf_ok hK hname ih (on := decide (1000 < n))
    cases c <;> simp only [sx] at h
    case skip => cases h; exact wp_skip (sp_here (List.mem_singleton.2 rfl) g hf rfl)
    case label x => cases h; exact wp_label (sp_here (List.mem_singleton.2 rfl) g hf rfl)
    case region id ops draw =>
      split at h
      · rename_i hd
        subst hd
        split at h
        · rename_i hsel
          refine wp_region_any hmix ?_
          exact draw_ok hcall hsel (σ := σ) (τ := []) (Q := SP ρ W0 σ a.defers l) (fun c a' d v w' hs => by
            obtain ⟨h1, h2⟩ := hs
            refine ⟨?_, h2⟩
            cases d <;> exact h1) ops.size (by rw [g.len]; exact h) hn (List.mem_singleton.2 rfl) (by rw [List.append_nil]; exact g.drew) (by rw [List.append_nil]; exact hf) (fun _ _ _ hs => hs)
        · cases h
      · rename_i hd
        have hd' : draw = false := by simpa using hd
        subst hd'
        exact wp_region (opsX_ok hcall _ h hn g hf fun _ _ _ hs => hs)
    case seq x y =>
      split at h
      · rename_i m hm
        refine wp_seq (wp_mono (ih x tm s m hm (NB.of_bind h hn) W0 σ a w g hf) fun e a' w' hs => ?_)
        cases e with
        | normal =>
          obtain ⟨hd, tm', s', τ, h1, h2, h3⟩ := hs
          obtain ⟨m2, h4, h5⟩ := bindO_nor h h1
          refine wp_mono (ih y tm' s' m2 h4 (hn.sub h5) W0 _ a' w' h2 h3) fun e a'' w'' hs => ?_
          rw [hd] at hs
          exact (hs.mono h5).more
        | exit id => obtain ⟨hd, tm', s', τ, h1, h2⟩ := hs; exact ⟨hd, tm', s', τ, bindO_other h h1 rfl, h2⟩
        | goto l => obtain ⟨hd, tm', s', τ, h1, h2⟩ := hs; exact ⟨hd, tm', s', τ, bindO_other h h1 rfl, h2⟩
        | ret => obtain ⟨hd, tm', s', τ, h1, h2⟩ := hs; exact ⟨hd, tm', s', τ, bindO_other h h1 rfl, h2⟩
        | panic ch => obtain ⟨hd, v, s', τ, x, h1, h2⟩ := hs; exact ⟨hd, v, s', τ, x, bindO_other h h1 rfl, h2⟩
        | outgrown => exact hs.elim
      · cases h
    case cond c x y =>
      split at h
      · rename_i e he
        have h1 := hf.ev _ _ he
        simp only [V.val, Option.some.injEq] at h1
        obtain ⟨s', b, m, g', hb, hk, hsub⟩ := forkO_ok g h
        have hbe : (e.n ρ != 0) = b := by
          by_cases h0 : e.n ρ = 0
          · have : b = false := by cases b <;> simp_all
            simp [h0, this]
          · have : b = true := hb.2 h0
            simp [h0, this]
        rw [hbe] at h1
        refine wp_cond h1.symm (wp_mono (ih _ tm s' m hk (hn.sub hsub) W0 σ a w g' hf) fun e a' w' hs => hs.mono hsub)
      · cases h
    case block id c =>
      simp only [Option.map_eq_some_iff] at h
      obtain ⟨m, hm, rfl⟩ := h
      have hnb : NB ρ m := fun s' hs => hn s' (List.mem_map.2 ⟨_, hs, rfl⟩)
      refine wp_block (wp_mono (ih c tm s m hm hnb W0 σ a w g hf) fun e a' w' hs => ?_)
      cases e with
      | normal => obtain ⟨hd, tm', s', τ, h1, h2⟩ := hs; exact ⟨hd, tm', s', τ, List.mem_map.2 ⟨_, h1, rfl⟩, h2⟩
      | exit id' =>
        obtain ⟨hd, tm', s', τ, h1, h2⟩ := hs
        simp only [Exit.inBlock]
        split
        · rename_i he; exact ⟨hd, tm', s', τ, List.mem_map.2 ⟨_, h1, by simp [exitB, he]⟩, h2⟩
        · rename_i he; exact ⟨hd, tm', s', τ, List.mem_map.2 ⟨_, h1, by simp [exitB, he]⟩, h2⟩
      | goto l => obtain ⟨hd, tm', s', τ, h1, h2⟩ := hs; exact ⟨hd, tm', s', τ, List.mem_map.2 ⟨_, h1, rfl⟩, h2⟩
      | ret => obtain ⟨hd, tm', s', τ, h1, h2⟩ := hs; exact ⟨hd, tm', s', τ, List.mem_map.2 ⟨_, h1, rfl⟩, h2⟩
      | panic ch => obtain ⟨hd, v, s', τ, x, h1, h2⟩ := hs; exact ⟨hd, v, s', τ, x, List.mem_map.2 ⟨_, h1, rfl⟩, h2⟩
      | outgrown => exact hs.elim
    case loop c =>
      have key : ∀ k tm s σ a w m, loopX (sx P K n c) k tm s = some m → (∀ o ∈ m, o ∈ l) → Gam ρ W0 σ s w → FR ρ σ tm a → ∀ Q, (∀ e a' w', SP ρ W0 σ a.defers l e a' w' → Q e a' w') → Code.rounds P c Q k a w := by
        intro k
        induction k with
        | zero => intro tm s σ a w m h; simp [loopX] at h
        | succ k ihk =>
          intro tm s σ a w m h hsub g hf Q hQ
          simp only [loopX] at h
          split at h
          · rename_i m1 hm1
            rw [rounds_succ]
            refine wp_mono (ih c tm s m1 hm1 (NB.of_bind h (hn.sub hsub)) W0 σ a w g hf) fun e a' w' hs => ?_
            cases e with
            | normal =>
              obtain ⟨hd, tm', s', τ, h1, h2, h3⟩ := hs
              obtain ⟨m2, h4, h5⟩ := bindO_nor h h1
              refine ihk tm' s' _ a' w' m2 h4 (fun o ho => hsub o (h5 o ho)) h2 h3 Q fun e a'' w'' hs => hQ _ _ _ ?_
              rw [hd] at hs
              exact hs.more
            | exit id => obtain ⟨hd, tm', s', τ, h1, h2⟩ := hs; exact hQ _ _ _ ⟨hd, tm', s', τ, hsub _ (bindO_other h h1 rfl), h2⟩
            | goto l => obtain ⟨hd, tm', s', τ, h1, h2⟩ := hs; exact hQ _ _ _ ⟨hd, tm', s', τ, hsub _ (bindO_other h h1 rfl), h2⟩
            | ret => obtain ⟨hd, tm', s', τ, h1, h2⟩ := hs; exact hQ _ _ _ ⟨hd, tm', s', τ, hsub _ (bindO_other h h1 rfl), h2⟩
            | panic ch => obtain ⟨hd, v, s', τ, x, h1, h2⟩ := hs; exact hQ _ _ _ ⟨hd, v, s', τ, x, hsub _ (bindO_other h h1 rfl), h2⟩
            | outgrown => exact hs.elim
          · cases h
      exact wp_loop_rounds n (key n tm s σ a w l h (fun _ h => h) g hf _ fun _ _ _ hs => hs)
    case exit id => cases h; exact wp_exit ⟨rfl, tm, s, [], List.mem_singleton.2 rfl, by rw [List.append_nil]; exact g, by rw [List.append_nil]; exact hf⟩
    case ret => cases h; exact wp_ret ⟨rfl, tm, s, [], List.mem_singleton.2 rfl, by rw [List.append_nil]; exact g, by rw [List.append_nil]; exact hf⟩
    case goto i => cases h; exact wp_goto ⟨rfl, tm, s, [], List.mem_singleton.2 rfl, by rw [List.append_nil]; exact g, by rw [List.append_nil]; exact hf⟩
    case scope c =>
      split at h
      · rename_i m hm
        split at h
        · rename_i hno
          cases h
          refine wp_scope_straight (wp_mono (ih c tm s l hm hn W0 σ a w g hf) fun e a' w' hs => ?_)
          cases e with
          | goto i => obtain ⟨hd, tm', s', τ, h1, h2⟩ := hs; exact (label_none hno h1).elim
          | _ => exact hs
        · rename_i i hi
          split at h
          · rename_i rest hrest
            have hnb : NB ρ m := fun s' hs => hn s' (scopeO_other h hs rfl)
            refine wp_scope_jumps i (fun a' w' => a'.defers = a.defers ∧ ∃ tm' s' τ, Out.gto i tm' s' ∈ m ∧ Gam ρ W0 (σ ++ τ) s' w' ∧ FR ρ (σ ++ τ) tm' a') (fun _ _ => 0) hrest (wp_mono (ih c tm s m hm hnb W0 σ a w g hf) fun e a' w' hs => ?_) (fun a' w' hJ => ?_)
            · cases e with
              | goto j =>
                obtain ⟨hd, tm', s', τ, h1, h2⟩ := hs
                obtain ⟨rfl, _⟩ := scopeO_gto h h1
                exact ⟨rfl, hd, tm', s', τ, h1, h2⟩
              | normal => obtain ⟨hd, tm', s', τ, h1, h2⟩ := hs; exact ⟨hd, tm', s', τ, scopeO_other h h1 rfl, h2⟩
              | exit id => obtain ⟨hd, tm', s', τ, h1, h2⟩ := hs; exact ⟨hd, tm', s', τ, scopeO_other h h1 rfl, h2⟩
              | ret => obtain ⟨hd, tm', s', τ, h1, h2⟩ := hs; exact ⟨hd, tm', s', τ, scopeO_other h h1 rfl, h2⟩
              | panic ch => obtain ⟨hd, v, s', τ, x, h1, h2⟩ := hs; exact ⟨hd, v, s', τ, x, scopeO_other h h1 rfl, h2⟩
              | outgrown => exact hs.elim
            · obtain ⟨hd, tm', s', τ, h1, h2, h3⟩ := hJ
              obtain ⟨_, m2, h4, h5, h6⟩ := scopeO_gto h h1
              refine wp_mono (ih rest tm' s' m2 h4 (hn.sub h6) W0 _ a' w' h2 h3) fun e a'' w'' hs => ?_
              rw [hd] at hs
              have hs' := (hs.mono h6).more
              cases e with
              | goto j => obtain ⟨_, tm', s', τ, h1, h2⟩ := hs; exact (label_none h5 h1).elim
              | _ => exact hs'
          · cases h
      · cases h
    all_goals cases h

theorem sx_ok {K : CallF} (hK : ∀ ρ, CallOK ρ P K) (hname : named P = true) (hmix : P.follows .mixedOrders = true) (n : Nat) (c : Code) (tm : TM) (s : S) (l : List Out) (h : sx P K n c tm s = some l) (ρ : Env) : NB ρ l → ∀ (W0 : World) (σ : Sig) (a : Act) (w : World),
    Gam ρ W0 σ s w → FR ρ σ tm a → c.wp P (SP ρ W0 σ a.defers l) a w := sxr_ok (hK ρ) hname hmix n c tm s l h
/-- **A call.** -/
def callX (P : Program) (K : CallF) (n : Nat) : CallF := callOf (decide (1000 < n)) P K (sx P K n)
theorem callX_ok {K : CallF} (hK : CallOK ρ P K) (hname : named P = true) (hmix : P.follows .mixedOrders = true) (n : Nat) : CallOK ρ P (callX P K n) := callOf_ok hK hname (sxr_ok hK hname hmix n)
def noK : CallF := fun _ _ _ => none
theorem noK_ok (ρ : Env) : CallOK ρ P noK := fun _ _ _ _ _ h => nomatch h
end
end Go.SX
