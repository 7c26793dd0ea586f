/- A symbolic executor, part Q: a call of which a contract is known: what stays, what is new. -/
import Derived.Test.YtfnekjeicdhihaaSxP
namespace Go.SX

/-- What stood is as it was. -/
structure Old (w w' : World) : Prop where
  size : w.heap.size ≤ w'.heap.size
  same : ∀ k, k < w.heap.size → w'.heap[k]? = w.heap[k]?
  tape : w'.tape = w.tape
  os : w'.os = w.os
  out : w'.output = w.output
theorem Old.refl (w : World) : Old w w := ⟨Nat.le_refl _, fun _ _ => rfl, rfl, rfl, rfl⟩
theorem Old.trans {w w' w'' : World} (h : Old w w') (h' : Old w' w'') : Old w w'' :=
  ⟨Nat.le_trans h.size h'.size, fun k hk => (h'.same k (Nat.lt_of_lt_of_le hk h.size)).trans (h.same k hk), h'.tape.trans h.tape, h'.os.trans h.os, h'.out.trans h.out⟩

section
variable {ρ : Env} {W0 : World} {σ : Sig} {P : Program}

theorem cell_of_heap {w w' : World} {a : Addr} (h : w'.heap[a.block]? = w.heap[a.block]?) : w'.cell? a = w.cell? a := by simp only [World.cell?, h]
/-- But for the blocks 'T', which may change, and may be forgotten. -/
theorem Gam.stepT {s : S} {w w' : World} (g : Gam ρ W0 σ s w) (T : Nat → Bool) (hT : ∀ c ∈ s.H, T c.id = true → c.fresh = true ∧ c.own = true) (hs : w.heap.size ≤ w'.heap.size) (h1 : w'.tape = w.tape) (h2 : w'.os = w.os) (h3 : w'.output = w.output)
    (hk : ∀ k, k < w.heap.size → (∀ c ∈ s.H, T c.id = true → blk σ c.id ≠ some k) → w'.heap[k]? = w.heap[k]?) : Gam ρ W0 σ { s with H := s.H.filter fun c => !T c.id } w' where
  pc := g.pc
  len := g.len
  ids := (List.Sublist.map _ List.filter_sublist).nodup g.ids
  ch := fun c hc => by
    obtain ⟨hc, hTc⟩ := List.mem_filter.1 hc
    obtain ⟨k, o, cs, e1, e2, e3, e4, e5⟩ := g.ch c hc
    have hheap : w'.heap[k]? = w.heap[k]? := hk k e3 fun d hd hTd => by
      have hne : d.id ≠ c.id := by
        intro e
        rw [e] at hTd
        simp [hTd] at hTc
      have := g.sep d hd c hc (hT d hd hTd).2 hne
      simpa [blk, e1] using this
    refine ⟨k, o, cs, e1, e2, Nat.lt_of_lt_of_le e3 hs, e4, ?_⟩
    split at e5
    · rw [if_pos (by assumption), hheap]; exact e5
    · rw [if_neg (by assumption)]
      intro j v hj
      rw [cell_of_heap (a := ⟨k, o + j, none⟩) hheap]
      exact e5 j v hj
  sep := fun c hc d hd => g.sep c (List.mem_filter.1 hc).1 d (List.mem_filter.1 hd).1
  size := Nat.le_trans g.size hs
  tape := h1.trans g.tape
  os := h2.trans g.os
  out := h3.trans g.out
  kept := fun k hkk h => by
    have hno : ∀ c ∈ s.H, T c.id = true → blk σ c.id ≠ some k := fun c hc hTc => by
      obtain ⟨k', o, cs, e1, e2, e3, e4, _⟩ := g.ch c hc
      have := e4 (hT c hc hTc).1
      simp only [blk, e1, Option.map_some, ne_eq, Option.some.injEq]
      omega
    rw [hk k (Nat.lt_of_lt_of_le hkk g.size) hno]
    refine g.kept k hkk fun c hc ho => ?_
    by_cases hTc : T c.id = true
    · exact hno c hc hTc
    · exact h c (List.mem_filter.2 ⟨hc, by simpa using hTc⟩) ho
theorem Gam.step {s : S} {w w' : World} (g : Gam ρ W0 σ s w) (h : Old w w') : Gam ρ W0 σ s w' := by
  have := g.stepT (fun _ => false) (fun _ _ h => nomatch h) h.size h.tape h.os h.out (fun k hk _ => h.same k hk)
  have he : s.H.filter (fun c => !(fun _ : Nat => false) c.id) = s.H := by simp
  rw [he] at this
  exact this
/-- Some of what is known, seen from now on. -/
theorem Gam.sub {s : S} {w : World} (g : Gam ρ W0 σ s w) (p : Chunk → Bool) : Gam ρ w σ { s with H := (s.H.filter p).map fun c => { c with fresh := false } } w where
  pc := g.pc
  len := g.len
  ids := by
    have : ((s.H.filter p).map fun c => { c with fresh := false }).map (·.id) = (s.H.filter p).map (·.id) := by simp [List.map_map, Function.comp_def]
    rw [this]
    exact (List.Sublist.map _ List.filter_sublist).nodup g.ids
  ch := fun c hc => by
    obtain ⟨d, hd, rfl⟩ := List.mem_map.1 hc
    obtain ⟨k, o, cs, e1, e2, e3, e4, e5⟩ := g.ch d (List.mem_filter.1 hd).1
    exact ⟨k, o, cs, e1, e2, e3, fun h => Bool.noConfusion h, e5⟩
  sep := by
    intro c hc d hd
    obtain ⟨c', hc', rfl⟩ := List.mem_map.1 hc
    obtain ⟨d', hd', rfl⟩ := List.mem_map.1 hd
    exact g.sep c' (List.mem_filter.1 hc').1 d' (List.mem_filter.1 hd').1
  size := Nat.le_refl _
  tape := rfl
  os := rfl
  out := rfl
  kept := fun _ _ _ => rfl
/-- Nothing that stood was anybody's: all is as it was. -/
theorem Gam.old {s : S} {w w' : World} (g : Gam ρ w σ s w') (h : ∀ c ∈ s.H, c.own = true → c.fresh = true) : Old w w' :=
  ⟨g.size, fun k hk => g.kept k hk fun c hc ho => by
    obtain ⟨k', o, cs, e1, e2, e3, e4, _⟩ := g.ch c hc
    have := e4 (h c hc ho)
    simp only [blk, e1, Option.map_some, ne_eq, Option.some.injEq]
    omega, g.tape, g.os, g.out⟩
/-- A block that was not known. -/
theorem Gam.add {s : S} {w : World} (g : Gam ρ W0 σ s w) {c : Chunk} (τ : Sig) (hid : c.id = s.nx) (hτ : τ ≠ []) (hfr : c.fresh = true) (hc : c.ok ρ W0 (σ ++ τ) w) (hb : ∀ d ∈ s.H, blk σ d.id ≠ blk (σ ++ τ) s.nx) :
    Gam ρ W0 (σ ++ τ) { s with nx := s.nx + τ.length, H := c :: s.H } w where
  pc := g.pc
  len := by simp [g.len]
  ids := by
    simp only [List.map_cons, List.nodup_cons, List.mem_map, not_exists, not_and]
    refine ⟨fun d hd he => ?_, g.ids⟩
    obtain ⟨k, o, cs, e1, _⟩ := g.ch d hd
    have := (List.getElem?_eq_some_iff.1 e1).1
    rw [g.len] at this
    omega
  ch := fun d hd => by
    rcases List.mem_cons.1 hd with rfl | hd
    · exact hc
    · obtain ⟨k, o, cs, e1, e2, e3, e4, e5⟩ := g.ch d hd
      refine ⟨k, o, cs, sig_ext e1, cellsL_ext τ _ _ e2, e3, e4, ?_⟩
      split
      · rename_i ho
        rw [if_pos ho] at e5
        obtain ⟨f1, tail, f2, f3, f4⟩ := e5
        refine ⟨f1, tail, f2, f3, fun j st hj => ?_⟩
        obtain ⟨m, h1, h2⟩ := f4 j st hj
        exact ⟨m, sig_ext h1, h2⟩
      · rename_i ho
        rw [if_neg ho] at e5
        exact e5
  sep := by
    have hold : ∀ d ∈ s.H, blk (σ ++ τ) d.id = blk σ d.id := fun d hd => by
      obtain ⟨k, o, cs, e1, _⟩ := g.ch d hd
      simp only [blk, sig_ext e1, e1]
    intro x hx y hy ho hne
    rcases List.mem_cons.1 hx with hxc | hx' <;> rcases List.mem_cons.1 hy with hyc | hy'
    · rw [hxc, hyc] at hne; exact absurd rfl hne
    · rw [hxc, hold y hy', hid]; exact fun e => hb y hy' e.symm
    · rw [hyc, hold x hx', hid]; exact hb x hx'
    · rw [hold x hx', hold y hy']; exact g.sep x hx' y hy' ho hne
  size := g.size
  tape := g.tape
  os := g.os
  out := g.out
  kept := fun k hk h => by
    refine g.kept k hk fun d hd ho => ?_
    have := h d (List.mem_cons_of_mem _ hd) ho
    obtain ⟨k', o, cs, e1, _⟩ := g.ch d hd
    simpa only [blk, sig_ext e1, e1] using this
/-- More numbers for blocks. -/
theorem Gam.ext {s : S} {w : World} (g : Gam ρ W0 σ s w) (τ : Sig) : Gam ρ W0 (σ ++ τ) { s with nx := s.nx + τ.length } w where
  pc := g.pc
  len := by simp [g.len]
  ids := g.ids
  ch := fun d hd => by
    obtain ⟨k, o, cs, e1, e2, e3, e4, e5⟩ := g.ch d hd
    refine ⟨k, o, cs, sig_ext e1, cellsL_ext τ _ _ e2, e3, e4, ?_⟩
    split
    · rename_i ho
      rw [if_pos ho] at e5
      obtain ⟨f1, tail, f2, f3, f4⟩ := e5
      refine ⟨f1, tail, f2, f3, fun j st hj => ?_⟩
      obtain ⟨m, h1, h2⟩ := f4 j st hj
      exact ⟨m, sig_ext h1, h2⟩
    · rename_i ho
      rw [if_neg ho] at e5
      exact e5
  sep := by
    have hold : ∀ d ∈ s.H, blk (σ ++ τ) d.id = blk σ d.id := fun d hd => by
      obtain ⟨k, o, cs, e1, _⟩ := g.ch d hd
      simp only [blk, sig_ext e1, e1]
    intro x hx y hy ho hne
    rw [hold x hx, hold y hy]; exact g.sep x hx y hy ho hne
  size := g.size
  tape := g.tape
  os := g.os
  out := g.out
  kept := fun k hk h => by
    refine g.kept k hk fun d hd ho => ?_
    have := h d hd ho
    obtain ⟨k', o, cs, e1, _⟩ := g.ch d hd
    simpa only [blk, sig_ext e1, e1] using this
/-- A block, of which nothing was known any more, known again. -/
theorem Gam.addAt {s : S} {w : World} (g : Gam ρ W0 σ s w) {c : Chunk} (hid : c.id ∉ s.H.map (·.id)) (hc : c.ok ρ W0 σ w) (hb : ∀ d ∈ s.H, blk σ d.id ≠ blk σ c.id) :
    Gam ρ W0 σ { s with H := c :: s.H } w where
  pc := g.pc
  len := g.len
  ids := by simp only [List.map_cons, List.nodup_cons]; exact ⟨hid, g.ids⟩
  ch := fun d hd => by
    rcases List.mem_cons.1 hd with rfl | hd
    · exact hc
    · exact g.ch d hd
  sep := by
    intro x hx y hy ho hne
    rcases List.mem_cons.1 hx with hxc | hx' <;> rcases List.mem_cons.1 hy with hyc | hy'
    · rw [hxc, hyc] at hne; exact absurd rfl hne
    · rw [hxc]; exact fun e => hb y hy' e.symm
    · rw [hyc]; exact hb x hx'
    · exact g.sep x hx' y hy' ho hne
  size := g.size
  tape := g.tape
  os := g.os
  out := g.out
  kept := fun k hk h => g.kept k hk fun d hd ho => h d (List.mem_cons_of_mem _ hd) ho
end
end Go.SX
