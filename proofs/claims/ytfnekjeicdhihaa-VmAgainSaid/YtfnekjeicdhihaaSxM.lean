/- A symbolic executor, part M: regions, in the text's order and in every order. -/
import Derived.Test.YtfnekjeicdhihaaSxO2
namespace Go.SX

section
variable {ρ : Env} {W0 : World} {σ : Sig} {P : Program}

/-! ### In the text's order -/
def opsX (P : Program) (call : CallF) (ops : Array Oper) : List Nat → TM → S → Option (List Out)
  | [], tm, s => some [.nor tm s]
  | i :: is, tm, s => match stepX P call ops i tm s with
    | some l => bindO l fun tm s => opsX P call ops is tm s
    | none => none
theorem opsX_ok {call : CallF} (hcall : CallOK ρ P call) {ops : Array Oper} {Q : Exit → Act → World → Prop} : ∀ (is : List Nat) {tm : TM} {s : S} {σ : Sig} {a : Act} {w : World} {l : List Out}, opsX P call ops is tm s = some l → NB ρ l →
    Gam ρ W0 σ s w → FR ρ σ tm a → (∀ e a' w', SP ρ W0 σ a.defers l e a' w' → Q e a' w') → wpOps P ops Q is a w
  | [], tm, s, σ, a, w, l, h, hn, g, hf, hQ => by
    simp only [opsX, Option.some.injEq] at h
    subst h
    exact hQ _ _ _ ⟨rfl, tm, s, [], List.mem_singleton.2 rfl, by rw [List.append_nil]; exact g, by rw [List.append_nil]; exact hf⟩
  | i :: is, tm, s, σ, a, w, l, h, hn, g, hf, hQ => by
    simp only [opsX] at h
    split at h
    · rename_i m hm
      rw [wpOps_cons]
      refine stepX_ok hcall g hf hm (NB.of_bind h hn) (fun tm' s' τ a' w' hmem g' hf' hd => ?_) (fun v s' τ x w' hmem g' hv => ?_)
      · obtain ⟨m2, h1, h2⟩ := bindO_nor h hmem
        refine opsX_ok hcall is h1 (hn.sub h2) g' hf' fun e a'' w'' hs => hQ _ _ _ ?_
        rw [hd] at hs
        exact (hs.mono h2).more
      · exact hQ _ _ _ ⟨rfl, v, s', τ, x, bindO_other h hmem rfl, g', hv, rfl⟩
    · cases h

/-! ### An operation that is the same in every world -/
def pureX (P : Program) (e : Operand → Option V) (o : Oper) : Option V := match o.op with
  | .move x | .assign x => e x
  | .nilCheck x => match e x with
    | some (.ptr b c st i) => some (.ptr b c st i)
    | _ => none
  | .fieldAddr t x k => match e x with
    | some v => match xFieldAddr P t v k ⟨[], 0, []⟩ with
      | some [.val u _] => some u
      | _ => none
    | none => none
  | .extract x i => match e x with
    | some (.tup l) => l[i]?
    | _ => none
  | .unOp .not _ x => match e x with
    | some (.bool a) => some (.bool (mkU .not a))
    | _ => none
  | .call { callee := .builtin .len, args := ⟨[x]⟩, argTypes := ⟨[t]⟩ } => match P.underlying t, e x with
    | some (.slice _), some (.slice _ _ _ _ len _) => some (.int .i64 len)
    | some (.slice _), some .nils => some (.int .i64 (.c 0))
    | some (.slice _), some (.ms _ _ len) => some (.int .i64 len)
    | _, _ => none
  | _ => none
theorem pureX_ok {e : Operand → Option V} {f : Operand → Value} (he : EV ρ σ e f) {o : Oper} {v : V} (h : pureX P e o = some v) : ∃ x, v.val ρ σ = some x ∧ ∀ w, (execOp f o).run P w = .ok (.value x) w := by
  unfold pureX at h
  split at h
  all_goals first | (cases h; done) | skip
  · rename_i x ho
    exact ⟨f x, he _ _ h, fun w => by simp [execOp, ho]⟩
  · rename_i x ho
    exact ⟨f x, he _ _ h, fun w => by simp [execOp, ho]⟩
  · rename_i x ho
    split at h
    · rename_i b c st i hx
      cases h
      have h1 := he _ _ hx
      refine ⟨f x, h1, fun w => ?_⟩
      simp only [V.val, Option.map_eq_some_iff] at h1
      obtain ⟨a, ha, hfx⟩ := h1
      simp [execOp, ho, ← hfx]
    · cases h
  · rename_i t x k ho
    split at h
    · rename_i u hx
      split at h
      · rename_i y s' hy
        cases h
        have h1 := he _ _ hx
        unfold xFieldAddr at hy
        split at hy
        · rename_i b c st i fields hu
          split at hy
          · rename_i fd hfd
            split at hy
            · rename_i inf hi
              split at hy
              · cases hy
              · rename_i hsz
                simp only [Option.some.injEq, List.cons.injEq, R.val.injEq, and_true] at hy
                obtain ⟨rfl, rfl⟩ := hy
                simp only [V.val, Option.map_eq_some_iff] at h1
                obtain ⟨a, ha, hfx⟩ := h1
                refine ⟨.pointer (some (a.add fd.offset)), by simp [V.val, addr_add ha], fun w => ?_⟩
                simp [execOp, ho, ← hfx, Instr.fieldAt, run_underlying hu, hfd, Instr.sureAddr, fieldPlace, run_sizeOf' hi, hsz]
            · cases hy
          · cases hy
        · cases hy
      · cases h
    · cases h
  · rename_i x i ho
    split at h
    · rename_i l hx
      have h1 := he _ _ hx
      simp only [V.val, Option.map_eq_some_iff] at h1
      obtain ⟨vs, hvs, hfx⟩ := h1
      obtain ⟨u, h2, h3⟩ := valL_get _ _ _ _ hvs h
      exact ⟨u, h3, fun w => by simp [execOp, ho, ← hfx, Instr.extract, h2]⟩
    · cases h
  · rename_i t x ho
    split at h
    · rename_i a hx
      cases h
      have h1 := he _ _ hx
      simp only [V.val, Option.some.injEq] at h1
      refine ⟨_, rfl, fun w => ?_⟩
      simp only [execOp, ho, ← h1, Op.unary, mkU_n]
      rw [not_ne, ne_dec]
      simp
    · cases h
  · rename_i x t ho
    split at h
    · rename_i el b c st i len m hu hx
      cases h
      have h1 := he _ _ hx
      simp only [V.val] at h1
      split at h1
      · rename_i a n m' ha hn hm
        simp only [Option.some.injEq] at h1
        have hn' : (n : Int) = len.n ρ := by
          unfold natOf at hn
          split at hn
          · cases hn; omega
          · cases hn
        refine ⟨.int .i64 n, by simp only [V.val, ← hn'], fun w => run_builtin ho ?_⟩
        simp [builtin, Builtin.len_, ← h1, run_underlying hu, goInt]
      · cases h1
    · rename_i el hu hx
      cases h
      have h1 := he _ _ hx
      simp only [V.val, Option.some.injEq] at h1
      refine ⟨.int .i64 0, rfl, fun w => run_builtin ho ?_⟩
      simp [builtin, Builtin.len_, ← h1, run_underlying hu, goInt]
    · rename_i el q b len hu hx
      cases h
      have h1 := he _ _ hx
      simp only [V.val] at h1
      obtain ⟨a, n, c, h2, h3⟩ := ms_len h1
      refine ⟨.int .i64 n, by simp only [V.val, h3], fun w => run_builtin ho ?_⟩
      simp [builtin, Builtin.len_, h2, run_underlying hu, goInt]
    · cases h

/-! ### In every order -/
abbrev DS := Array Bool × TM × S
def sameTM : TM → TM → Bool
  | [], [] => true
  | none :: xs, none :: ys => sameTM xs ys
  | some x :: xs, some y :: ys => x.same y && sameTM xs ys
  | _, _ => false
theorem sameTM_eq : ∀ {x y : TM}, sameTM x y = true → x = y
  | [], [], _ => rfl
  | none :: xs, none :: ys, h => by rw [sameTM_eq (x := xs) (y := ys) (by simpa [sameTM] using h)]
  | some x :: xs, some y :: ys, h => by
    simp only [sameTM, Bool.and_eq_true] at h
    rw [V.same_eq _ _ h.1, sameTM_eq h.2]
  | [], _ :: _, h => by simp [sameTM] at h
  | _ :: _, [], h => by simp [sameTM] at h
  | none :: _, some _ :: _, h => by simp [sameTM] at h
  | some _ :: _, none :: _, h => by simp [sameTM] at h
def Chunk.same (c d : Chunk) : Bool := c.id == d.id && c.own == d.own && c.elem == d.elem && c.full == d.full && c.fresh == d.fresh && decide (c.room = d.room) && sameL c.segs d.segs
theorem Chunk.same_eq {c d : Chunk} (h : c.same d = true) : c = d := by
  cases c; cases d
  simp only [Chunk.same, Bool.and_eq_true, beq_iff_eq, decide_eq_true_eq] at h
  obtain ⟨⟨⟨⟨⟨⟨h1, h2⟩, h3⟩, h4⟩, h5⟩, h6⟩, h7⟩ := h
  simp only [h1, h2, h3, h4, h5, h6, sameL_eq _ _ h7]
def sameH : List Chunk → List Chunk → Bool
  | [], [] => true
  | x :: xs, y :: ys => x.same y && sameH xs ys
  | _, _ => false
theorem sameH_eq : ∀ {x y : List Chunk}, sameH x y = true → x = y
  | [], [], _ => rfl
  | x :: xs, y :: ys, h => by
    simp only [sameH, Bool.and_eq_true] at h
    rw [Chunk.same_eq h.1, sameH_eq h.2]
  | [], _ :: _, h => by simp [sameH] at h
  | _ :: _, [], h => by simp [sameH] at h
def sameDS (x y : DS) : Bool := decide (x.1.toList = y.1.toList) && x.2.2.nx == y.2.2.nx && decide (x.2.2.pc = y.2.2.pc) && sameTM x.2.1 y.2.1 && sameH x.2.2.H y.2.2.H
theorem sameDS_eq {x y : DS} (h : sameDS x y = true) : x = y := by
  obtain ⟨L, tm, ⟨pc, nx, H⟩⟩ := x
  obtain ⟨L', tm', ⟨pc', nx', H'⟩⟩ := y
  simp only [sameDS, Bool.and_eq_true, beq_iff_eq, decide_eq_true_eq] at h
  obtain ⟨⟨⟨⟨h1, h2⟩, h3⟩, h4⟩, h5⟩ := h
  rw [Array.toList_inj.1 h1, h2, h3, sameTM_eq h4, sameH_eq h5]
def addDS (l : List DS) (x : DS) : List DS := if l.any (fun y => sameDS y x) = true then l else x :: l
theorem addDS_mem {l : List DS} {x y : DS} (h : y ∈ l ∨ y = x) : y ∈ addDS l x := by
  unfold addDS
  split
  · rename_i ha
    rcases h with h | rfl
    · exact h
    · obtain ⟨z, hz, he⟩ := List.any_eq_true.1 ha
      rw [← sameDS_eq he]; exact hz
  · rcases h with h | rfl
    · exact List.mem_cons_of_mem _ h
    · exact List.mem_cons_self
/-- What came of a step, sorted: where it goes on, and all else. -/
def sortO (L : Array Bool) : List Out → List DS × List Out → List DS × List Out
  | [], acc => acc
  | .nor tm s :: l, acc => sortO L l (addDS acc.1 (L, tm, s), acc.2)
  | o :: l, acc => sortO L l (acc.1, o :: acc.2)
theorem sortO_keep (L : Array Bool) : ∀ (l : List Out) (acc : List DS × List Out), (∀ x ∈ acc.1, x ∈ (sortO L l acc).1) ∧ ∀ o ∈ acc.2, o ∈ (sortO L l acc).2
  | [], acc => ⟨fun _ h => h, fun _ h => h⟩
  | x :: l, acc => by
    cases x with
    | nor tm s =>
      obtain ⟨h1, h2⟩ := sortO_keep L l (addDS acc.1 (L, tm, s), acc.2)
      exact ⟨fun x hx => h1 x (addDS_mem (.inl hx)), h2⟩
    | _ =>
      simp only [sortO]
      obtain ⟨h1, h2⟩ := sortO_keep L l (acc.1, _ :: acc.2)
      exact ⟨h1, fun o ho => h2 o (List.mem_cons_of_mem _ ho)⟩
theorem sortO_mem (L : Array Bool) : ∀ (l : List Out) (acc : List DS × List Out), (∀ tm s, Out.nor tm s ∈ l → (L, tm, s) ∈ (sortO L l acc).1) ∧ ∀ o ∈ l, o.isNor = false → o ∈ (sortO L l acc).2
  | [], acc => ⟨fun _ _ h => (nomatch h), fun _ h => (nomatch h)⟩
  | x :: l, acc => by
    cases x with
    | nor tm s =>
      obtain ⟨h1, h2⟩ := sortO_mem L l (addDS acc.1 (L, tm, s), acc.2)
      refine ⟨fun tm' s' hm => ?_, fun o ho hn => ?_⟩
      · rcases List.mem_cons.1 hm with he | hm
        · cases he; exact (sortO_keep L l _).1 _ (addDS_mem (.inr rfl))
        · exact h1 _ _ hm
      · rcases List.mem_cons.1 ho with rfl | ho
        · cases hn
        · exact h2 o ho hn
    | _ =>
      simp only [sortO]
      obtain ⟨h1, h2⟩ := sortO_mem L l (acc.1, _ :: acc.2)
      refine ⟨fun tm' s' hm => ?_, fun o ho hn => ?_⟩
      · rcases List.mem_cons.1 hm with he | hm
        · cases he
        · exact h1 _ _ hm
      · rcases List.mem_cons.1 ho with rfl | ho
        · exact (sortO_keep L l _).2 _ List.mem_cons_self
        · exact h2 o ho hn

/-- The first operation that may come up, is the same in every world, and meets none of the others. -/
def firstX (P : Program) (ops : Array Oper) (L : Array Bool) (tm : TM) : List Nat → Option (Nat × V × Option Tmp)
  | [] => none
  | i :: is => match ops[i]? with
    | some o => match o.guard, pureX P (ev tm) o with
      | none, some v => if Region.free .any ops L i = true then some (i, v, o.dst) else firstX P ops L tm is
      | _, _ => firstX P ops L tm is
    | none => firstX P ops L tm is
theorem firstX_ok {ops : Array Oper} {L : Array Bool} {tm : TM} {a : Act} (hf : FR ρ σ tm a) : ∀ {is : List Nat} {i : Nat} {v : V} {d : Option Tmp}, firstX P ops L tm is = some (i, v, d) →
    i ∈ is ∧ ∃ o x, ops[i]? = some o ∧ o.dst = d ∧ v.val ρ σ = some x ∧ Yields P ops o x a ∧ Region.free .any ops L i = true
  | [], i, v, d, h => by cases h
  | j :: is, i, v, d, h => by
    have next : firstX P ops L tm is = some (i, v, d) → i ∈ j :: is ∧ ∃ o x, ops[i]? = some o ∧ o.dst = d ∧ v.val ρ σ = some x ∧ Yields P ops o x a ∧ Region.free .any ops L i = true := by
      intro h
      obtain ⟨h1, h2⟩ := firstX_ok hf h
      exact ⟨List.mem_cons_of_mem _ h1, h2⟩
    simp only [firstX] at h
    split at h
    · rename_i o ho
      split at h
      · rename_i u hg hu
        split at h
        · rename_i hfree
          simp only [Option.some.injEq, Prod.mk.injEq] at h
          obtain ⟨rfl, rfl, rfl⟩ := h
          obtain ⟨x, hx, hrun⟩ := pureX_ok hf.ev hu
          exact ⟨List.mem_cons_self, o, x, ho, rfl, hx, .inl ⟨by simp [Region.wanted, hg], hrun⟩, hfree⟩
        · exact next h
      · exact next h
    · exact next h

def stepAll (P : Program) (call : CallF) (ops : Array Oper) (L : Array Bool) (tm : TM) (s : S) : List Nat → List DS × List Out → Option (List DS × List Out)
  | [], acc => some acc
  | i :: is, acc => match stepX P call ops i tm s with
    | some l => stepAll P call ops L tm s is (sortO (L.setIfInBounds i true) l acc)
    | none => none
theorem stepAll_keep {call : CallF} {ops : Array Oper} {L : Array Bool} {tm : TM} {s : S} : ∀ {is : List Nat} {acc r : List DS × List Out}, stepAll P call ops L tm s is acc = some r → (∀ x ∈ acc.1, x ∈ r.1) ∧ ∀ o ∈ acc.2, o ∈ r.2
  | [], acc, r, h => by cases h; exact ⟨fun _ h => h, fun _ h => h⟩
  | i :: is, acc, r, h => by
    simp only [stepAll] at h
    split at h
    · obtain ⟨h1, h2⟩ := stepAll_keep h
      obtain ⟨h3, h4⟩ := sortO_keep _ _ acc
      exact ⟨fun x hx => h1 x (h3 x hx), fun o ho => h2 o (h4 o ho)⟩
    · cases h
theorem stepAll_mem {call : CallF} {ops : Array Oper} {L : Array Bool} {tm : TM} {s : S} : ∀ {is : List Nat} {acc r : List DS × List Out}, stepAll P call ops L tm s is acc = some r → ∀ i ∈ is,
    ∃ l, stepX P call ops i tm s = some l ∧ (∀ tm' s', Out.nor tm' s' ∈ l → (L.setIfInBounds i true, tm', s') ∈ r.1) ∧ ∀ o ∈ l, o.isNor = false → o ∈ r.2
  | [], acc, r, h, i, hi => nomatch hi
  | j :: is, acc, r, h, i, hi => by
    simp only [stepAll] at h
    split at h
    · rename_i l hl
      rcases List.mem_cons.1 hi with rfl | hi
      · obtain ⟨h1, h2⟩ := stepAll_keep h
        obtain ⟨h3, h4⟩ := sortO_mem (L.setIfInBounds i true) l acc
        exact ⟨l, hl, fun tm' s' hm => h1 _ (h3 _ _ hm), fun o ho hn => h2 _ (h4 o ho hn)⟩
      · exact stepAll_mem h i hi
    · cases h
/-- One layer on. -/
def layer (P : Program) (call : CallF) (ops : Array Oper) : List DS → List DS × List Out → Option (List DS × List Out)
  | [], acc => some acc
  | (L, tm, s) :: fr, acc => match Region.ready .any ops L with
    | [] => layer P call ops fr (acc.1, .nor tm s :: acc.2)
    | is => match firstX P ops L tm is with
      | some (i, v, d) => layer P call ops fr (addDS acc.1 (L.setIfInBounds i true, putT tm d v, s), acc.2)
      | none => match stepAll P call ops L tm s is acc with
        | some acc => layer P call ops fr acc
        | none => none
theorem layer_keep {call : CallF} {ops : Array Oper} : ∀ {fr : List DS} {acc r : List DS × List Out}, layer P call ops fr acc = some r → (∀ x ∈ acc.1, x ∈ r.1) ∧ ∀ o ∈ acc.2, o ∈ r.2
  | [], acc, r, h => by cases h; exact ⟨fun _ h => h, fun _ h => h⟩
  | (L, tm, s) :: fr, acc, r, h => by
    simp only [layer] at h
    split at h
    · obtain ⟨h1, h2⟩ := layer_keep h
      exact ⟨h1, fun o ho => h2 o (List.mem_cons_of_mem _ ho)⟩
    · split at h
      · obtain ⟨h1, h2⟩ := layer_keep h
        exact ⟨fun x hx => h1 x (addDS_mem (.inl hx)), h2⟩
      · split at h
        · rename_i acc' ha
          obtain ⟨h1, h2⟩ := layer_keep h
          obtain ⟨h3, h4⟩ := stepAll_keep ha
          exact ⟨fun x hx => h1 x (h3 x hx), fun o ho => h2 o (h4 o ho)⟩
        · cases h
/-- In one form, if it is one. -/
def canonD (nb : Nat) (x : DS) : DS := match canon nb (fun _ => true) x.2.1 x.2.2 with
  | some p => (x.1, p.1, p.2)
  | none => x
def canonAdd (nb : Nat) : List DS → List DS
  | [] => []
  | x :: l => if neverS x.2.2.pc = true then canonAdd nb l else addDS (canonAdd nb l) (canonD nb x)
def canonL (on : Bool) (nb : Nat) (l : List DS) : List DS := if on = true then (match l with
  | [] => []
  | [x] => [x]
  | l => canonAdd nb l) else l
theorem canonD_ok {nb : Nat} {x : DS} (hl : σ.length = nb) {τ : Sig} {w : World} {a : Act} (g : Gam ρ W0 (σ ++ τ) x.2.2 w) (hf : FR ρ (σ ++ τ) x.2.1 a) :
    (canonD nb x).1 = x.1 ∧ ∃ τ0, Gam ρ W0 (σ ++ τ0) (canonD nb x).2.2 w ∧ FR ρ (σ ++ τ0) (canonD nb x).2.1 a := by
  unfold canonD
  split
  · rename_i p hp
    obtain ⟨τ0, h1, h2, h3⟩ := canon_ok (l := a.tmps.toList) hp hl g (fun i v hi => by rw [hf.2 i v hi]; simp)
    exact ⟨rfl, τ0, h1, by rw [h2]; exact hf.1, fun i v hi => by rw [h3 i v hi]; simp⟩
  · exact ⟨rfl, τ, g, hf⟩
theorem canonAdd_ok {nb : Nat} (hl : σ.length = nb) {τ : Sig} {w : World} {a : Act} : ∀ {l : List DS} {x : DS}, x ∈ l → Gam ρ W0 (σ ++ τ) x.2.2 w → FR ρ (σ ++ τ) x.2.1 a →
    ∃ tm0 s0 τ0, (x.1, tm0, s0) ∈ canonAdd nb l ∧ Gam ρ W0 (σ ++ τ0) s0 w ∧ FR ρ (σ ++ τ0) tm0 a
  | [], x, h, _, _ => nomatch h
  | y :: l, x, h, g, hf => by
    simp only [canonAdd]
    rcases List.mem_cons.1 h with rfl | h
    · have hne := never_ok g.pc
      rw [hne]
      obtain ⟨h1, τ0, h2, h3⟩ := canonD_ok (x := x) hl g hf
      refine ⟨(canonD nb x).2.1, (canonD nb x).2.2, τ0, ?_, h2, h3⟩
      simp only [Bool.false_eq_true, if_false]
      refine addDS_mem (.inr ?_)
      rw [← h1]
    · obtain ⟨tm0, s0, τ0, h1, h2, h3⟩ := canonAdd_ok hl h g hf
      refine ⟨tm0, s0, τ0, ?_, h2, h3⟩
      split
      · exact h1
      · exact addDS_mem (.inl h1)
theorem canonL_ok {on : Bool} {nb : Nat} (hl : σ.length = nb) {τ : Sig} {w : World} {a : Act} {l : List DS} {x : DS} (h : x ∈ l) (g : Gam ρ W0 (σ ++ τ) x.2.2 w) (hf : FR ρ (σ ++ τ) x.2.1 a) :
    ∃ tm0 s0 τ0, (x.1, tm0, s0) ∈ canonL on nb l ∧ Gam ρ W0 (σ ++ τ0) s0 w ∧ FR ρ (σ ++ τ0) tm0 a := by
  unfold canonL
  split
  · split
    · cases h
    · rename_i y
      have := List.mem_singleton.1 h
      subst this
      exact ⟨x.2.1, x.2.2, τ, List.mem_singleton.2 rfl, g, hf⟩
    · exact canonAdd_ok hl h g hf
  · exact ⟨x.2.1, x.2.2, τ, h, g, hf⟩
def drawX (P : Program) (call : CallF) (on : Bool) (nb : Nat) (ops : Array Oper) : Nat → List DS → Option (List Out)
  | 0, fr => if fr.all (fun x => (Region.ready .any ops x.1).isEmpty) = true then some (fr.map fun x => .nor x.2.1 x.2.2) else none
  | n + 1, fr => match layer P call ops fr ([], []) with
    | some (next, outs) => (drawX P call on nb ops n (canonL on nb next)).map (outs ++ ·)
    | none => none

theorem draw_ok {on : Bool} {call : CallF} (hcall : CallOK ρ P call) {ops : Array Oper} (hsel : Region.noSelect ops = true) {Q : Exit → Act → World → Prop} (hQp : ∀ c a d v w, Q (.panic c) (Act.put a d v) w → Q (.panic c) a w) :
    ∀ (n : Nat) {fr : List DS} {all : List Out}, drawX P call on σ.length ops n fr = some all → NB ρ all → ∀ {L : Array Bool} {tm : TM} {s : S}, (L, tm, s) ∈ fr → ∀ {τ : Sig} {a : Act} {w : World}, Gam ρ W0 (σ ++ τ) s w → FR ρ (σ ++ τ) tm a →
    (∀ e a' w', SP ρ W0 σ a.defers all e a' w' → Q e a' w') → wpAny P .any ops Q n L a w
  | 0, fr, all, h, hn, L, tm, s, hm, τ, a, w, g, hf, hQ => by
    simp only [drawX] at h
    split at h
    · rename_i hall
      cases h
      have := List.all_eq_true.1 hall _ hm
      refine ⟨by simpa using this, hQ _ _ _ ⟨rfl, tm, s, τ, List.mem_map.2 ⟨_, hm, rfl⟩, g, hf⟩⟩
    · cases h
  | n + 1, fr, all, h, hn, L, tm, s, hm, τ, a, w, g, hf, hQ => by
    simp only [drawX] at h
    split at h
    · rename_i next outs hlay
      simp only [Option.map_eq_some_iff] at h
      obtain ⟨rest, hrest, rfl⟩ := h
      have hn2 : NB ρ rest := hn.sub fun o ho => List.mem_append_right _ ho
      -- what the layer did at this state
      have key : ∀ (fr : List DS) (acc : List DS × List Out), layer P call ops fr acc = some (next, outs) → (L, tm, s) ∈ fr →
          (Region.ready .any ops L = [] ∧ Out.nor tm s ∈ outs) ∨
          (∃ i v d, firstX P ops L tm (Region.ready .any ops L) = some (i, v, d) ∧ (L.setIfInBounds i true, putT tm d v, s) ∈ next) ∨
          (Region.ready .any ops L ≠ [] ∧ ∀ i ∈ Region.ready .any ops L, ∃ l, stepX P call ops i tm s = some l ∧ (∀ tm' s', Out.nor tm' s' ∈ l → (L.setIfInBounds i true, tm', s') ∈ next) ∧ ∀ o ∈ l, o.isNor = false → o ∈ outs) := by
        intro fr
        induction fr with
        | nil => intro acc _ hm; cases hm
        | cons x fr ih =>
          intro acc h hm
          obtain ⟨L', tm', s'⟩ := x
          simp only [layer] at h
          rcases List.mem_cons.1 hm with he | hm'
          · cases he
            split at h
            · rename_i hr
              exact .inl ⟨hr, (layer_keep h).2 _ List.mem_cons_self⟩
            · rename_i hr
              split at h
              · rename_i i v d hfst
                exact .inr (.inl ⟨i, v, d, hfst, (layer_keep h).1 _ (addDS_mem (.inr rfl))⟩)
              · split at h
                · rename_i acc' ha
                  refine .inr (.inr ⟨hr, fun i hi => ?_⟩)
                  obtain ⟨l, h1, h2, h3⟩ := stepAll_mem ha i hi
                  exact ⟨l, h1, fun tm' s' hm => (layer_keep h).1 _ (h2 _ _ hm), fun o ho hno => (layer_keep h).2 _ (h3 o ho hno)⟩
                · cases h
          · split at h
            · exact ih _ h hm'
            · split at h
              · exact ih _ h hm'
              · split at h
                · exact ih _ h hm'
                · cases h
      rcases key fr _ hlay hm with ⟨hr, hmem⟩ | ⟨i, v, d, hfst, hmem⟩ | ⟨hr, hall⟩
      · refine ⟨fun _ => hQ _ _ _ ⟨rfl, tm, s, τ, List.mem_append_left _ hmem, g, hf⟩, fun i hi => ?_⟩
        rw [hr] at hi; cases hi
      · obtain ⟨hi, o, x, ho, hd, hv, hy, hfree⟩ := firstX_ok hf hfst
        subst hd
        refine wpAny_first ho (Region.noSelect_spec hsel) (fun c a w => hQp c a _ _ w) n L a w (Region.free_spec ho hfree) hi hy ?_
        obtain ⟨tm0, s0, τ0, c1, c2, c3⟩ := canonL_ok rfl hmem g (hf.put o.dst hv)
        refine draw_ok hcall hsel hQp n hrest hn2 c1 c2 c3 fun e a' w' hs => hQ _ _ _ ?_
        have hdd : (a.put o.dst x).defers = a.defers := by cases o.dst <;> rfl
        rw [hdd] at hs
        exact hs.mono fun o ho => List.mem_append_right _ ho
      · refine ⟨fun h0 => absurd h0 hr, fun i hi => ?_⟩
        obtain ⟨l, h1, h2, h3⟩ := hall i hi
        refine stepX_ok hcall g hf h1 (fun s' hs => hn s' (List.mem_append_left _ (h3 _ hs rfl))) (fun tm' s' τ1 a' w' hm' g' hf' hd => ?_) (fun v s' τ1 x w' hm' g' hv => ?_)
        · rw [List.append_assoc] at g' hf'
          obtain ⟨tm0, s0, τ0, c1, c2, c3⟩ := canonL_ok rfl (h2 _ _ hm') g' hf'
          refine draw_ok hcall hsel hQp n hrest hn2 c1 c2 c3 fun e a'' w'' hs => hQ _ _ _ ?_
          rw [hd] at hs
          exact hs.mono fun o ho => List.mem_append_right _ ho
        · rw [List.append_assoc] at g' hv
          exact hQ _ _ _ ⟨rfl, v, s', τ ++ τ1, x, List.mem_append_left _ (h3 _ hm' rfl), g', hv, rfl⟩
    · cases h
end
end Go.SX
