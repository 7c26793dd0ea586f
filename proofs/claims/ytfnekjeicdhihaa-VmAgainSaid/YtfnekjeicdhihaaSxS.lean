/- A symbolic executor, part S: what a call comes to is told once, of a small state; it holds in each state that has that one as a part. -/
import Derived.Test.YtfnekjeicdhihaaSxR
namespace Go.SX

def inT (θ : Sub) (s0 : S) (i : Nat) : Bool := s0.H.any fun c => c.own && θ.id c.id == i
def inP (θ : Sub) (s0 : S) (i : Nat) : Bool := s0.H.any fun c => θ.id c.id == i
/-- The part. -/
def pickF (θ : Sub) (s0 s : S) : S := ⟨s.pc, s.nx, (s.H.filter fun c => inP θ s0 c.id).map fun c => { c with fresh := false, own := c.own && inT θ s0 c.id }⟩
/-- The part's numbers, and those of what is new. -/
def extF (θ : Sub) (s0 s0' : S) : Sub := ⟨θ.iv, θ.av, ((List.range s0.nx).map fun b => (0 + b, θ.id b)) ++ ((List.range (s0'.nx - s0.nx)).map fun j => (s0.nx + j, θ.nx + j)), s0'.nx, θ.nx + (s0'.nx - s0.nx)⟩
def wasFresh (θ : Sub) (s0 s : S) (c : Chunk) : Bool := if c.id < s0.nx then (match s.find (θ.id c.id) with
  | some d => d.fresh
  | none => false) else c.fresh
def newF (θ θ' : Sub) (s0 s0' s : S) : List Chunk := (s0'.H.filter (·.own)).map fun c => { c with id := θ'.id c.id, fresh := wasFresh θ s0 s c, room := c.room.map (fun r => (θ'.id r.1, r.2)), segs := subL θ' c.segs }
def notC : E → Bool
  | .c _ => false
  | _ => true
def pcF (θ : Sub) (s0 s0' : S) : List E := (s0'.pc.filter fun e => !s0.pc.contains e).map (E.sub θ)
def framedS (θ θ' : Sub) (s0 s0' s : S) : S := ⟨(pcF θ s0 s0').filter (fun e => notC e && !s.pc.contains e) ++ s.pc, s.nx + (s0'.nx - s0.nx), newF θ θ' s0 s0' s ++ s.H.filter fun d => !inT θ s0 d.id⟩
def okF (s0 s0' : S) : Bool := s0'.H.all (fun c => !c.own || (if c.id < s0.nx then s0.H.any (fun c0 => c0.own && c0.id == c.id) else c.fresh)) && s0.H.all (fun c0 => !c0.own || s0'.H.any (fun c => c.own && c.id == c0.id)) && decide (s0.nx ≤ s0'.nx)

section
variable {ρ : Env} {W0 : World} {σ : Sig} {P : Program} {θ : Sub} {s0 s0' s : S}
theorem find_range (f : Nat → Nat) (c i : Nat) : ∀ n, ((List.range n).map fun j => (c + j, f j)).find? (·.1 == i) = if c ≤ i ∧ i < c + n then some (i, f (i - c)) else none
  | 0 => by simp
  | n + 1 => by
    rw [List.range_succ, List.map_append, List.find?_append, find_range f c i n]
    by_cases h : c ≤ i ∧ i < c + n
    · rw [if_pos h, if_pos (by omega)]; rfl
    · rw [if_neg h]
      by_cases h2 : c + n = i
      · subst h2
        rw [if_pos (by omega)]
        simp
      · rw [if_neg (by omega)]
        simp [h2]
theorem extF_id (b : Nat) (hb : b < s0'.nx) (hle : s0.nx ≤ s0'.nx) : (extF θ s0 s0').id b = if b < s0.nx then θ.id b else θ.nx + (b - s0.nx) := by
  unfold Sub.id
  rw [if_pos (show b < (extF θ s0 s0').n0 from hb)]
  unfold lk
  simp only [extF, List.find?_append, find_range, Nat.sub_zero]
  by_cases h : b < s0.nx
  · rw [if_pos ⟨Nat.zero_le _, by omega⟩, if_pos h]; rfl
  · rw [if_neg (by omega), if_pos (by omega), if_neg h]; rfl
theorem extF_sig {τ : Sig} (hok : θ.ok = true) (hl : σ.length = θ.nx) (hn0 : θ.n0 = s0.nx) (hle : s0.nx ≤ s0'.nx) (hτ : (θ.sig σ ++ τ).length = s0'.nx) : (extF θ s0 s0').sig (σ ++ τ) = θ.sig σ ++ τ := by
  have hsl : (θ.sig σ).length = s0.nx := by simp [Sub.sig, hn0]
  have hτl : τ.length = s0'.nx - s0.nx := by rw [List.length_append, hsl] at hτ; omega
  apply List.ext_getElem?
  intro b
  by_cases hb : b < s0'.nx
  · have e1 : ((extF θ s0 s0').sig (σ ++ τ))[b]? = some ((σ ++ τ).getD ((extF θ s0 s0').id b) (0, 0)) := by
      unfold Sub.sig
      rw [List.getElem?_map, List.getElem?_range (show b < (extF θ s0 s0').n0 from hb)]
      rfl
    rw [e1, extF_id b hb hle]
    by_cases h : b < s0.nx
    · rw [if_pos h, List.getElem?_append_left (by omega), Sub.sig_get hok hl]
      have := Sub.ok_b hok (show b < θ.n0 by omega)
      rw [List.getD_eq_getElem?_getD, List.getElem?_append_left (by omega), List.getElem?_eq_getElem (by omega)]
      rfl
    · rw [if_neg h, List.getElem?_append_right (by omega), List.getD_eq_getElem?_getD, List.getElem?_append_right (by omega), hsl, hl]
      rw [show θ.nx + (b - s0.nx) - θ.nx = b - s0.nx by omega, List.getElem?_eq_getElem (show b - s0.nx < τ.length by omega)]
      rfl
  · rw [List.getElem?_eq_none (by rw [show ((extF θ s0 s0').sig (σ ++ τ)).length = s0'.nx by simp [Sub.sig, extF]]; omega), List.getElem?_eq_none (by omega)]
theorem extF_ok (hok : θ.ok = true) (hn0 : θ.n0 = s0.nx) (hle : s0.nx ≤ s0'.nx) : (extF θ s0 s0').ok = true := by
  simp only [Sub.ok, Bool.and_eq_true, List.all_eq_true] at hok ⊢
  refine ⟨hok.1, fun b hb => ?_⟩
  have hb : b < s0'.nx := List.mem_range.1 hb
  rw [extF_id b hb hle, decide_eq_true_eq]
  show _ < θ.nx + (s0'.nx - s0.nx)
  split
  · have := hok.2 b (List.mem_range.2 (by omega))
    rw [decide_eq_true_eq] at this
    omega
  · omega

theorem Gam.pick {w : World} (g : Gam ρ W0 σ s w) (p q : Chunk → Bool) : Gam ρ w σ ⟨s.pc, s.nx, (s.H.filter p).map fun c => { c with fresh := false, own := c.own && q c }⟩ w where
  pc := g.pc
  len := g.len
  ids := by
    have : ((s.H.filter p).map fun c => ({ c with fresh := false, own := c.own && q c } : Chunk)).map (·.id) = (s.H.filter p).map (·.id) := by simp [List.map_map, Function.comp_def]
    rw [this]
    exact (List.Sublist.map _ List.filter_sublist).nodup g.ids
  ch := fun c hc => by
    obtain ⟨d, hd, rfl⟩ := List.mem_map.1 hc
    obtain ⟨k, o, cs, e1, e2, e3, e4, e5⟩ := g.ch d (List.mem_filter.1 hd).1
    refine ⟨k, o, cs, e1, e2, e3, fun h => Bool.noConfusion h, ?_⟩
    have hcell : ∀ (j : Nat) (v : Value), cs[j]? = some v → w.cell? ⟨k, o + j, none⟩ = some v := by
      split at e5
      · obtain ⟨rfl, tail, h1, _⟩ := e5
        intro j v hj
        have hjl := (List.getElem?_eq_some_iff.1 hj).1
        simp only [World.cell?, h1, Nat.zero_add, Option.isSome_none, Bool.false_eq_true, if_false, List.getElem?_toArray]
        rw [List.getElem?_append_left hjl, hj]
      · exact e5
    dsimp only
    split
    · rename_i ho
      simp only [Bool.and_eq_true] at ho
      rw [if_pos ho.1] at e5
      exact e5
    · exact hcell
  sep := by
    intro c hc d hd ho
    obtain ⟨c', hc', rfl⟩ := List.mem_map.1 hc
    obtain ⟨d', hd', rfl⟩ := List.mem_map.1 hd
    simp only [Bool.and_eq_true] at ho
    exact g.sep c' (List.mem_filter.1 hc').1 d' (List.mem_filter.1 hd').1 ho.1
  size := Nat.le_refl _
  tape := rfl
  os := rfl
  out := rfl
  kept := fun _ _ _ => rfl

theorem blk_lt {w : World} (g : Gam ρ W0 σ s w) {d : Chunk} (hd : d ∈ s.H) : d.id < s.nx ∧ ∃ k, blk σ d.id = some k ∧ k < w.heap.size := by
  obtain ⟨k, o, cs, e1, e2, e3, _⟩ := g.ch d hd
  refine ⟨?_, k, by simp [blk, e1], e3⟩
  have := (List.getElem?_eq_some_iff.1 e1).1
  rw [g.len] at this
  exact this

/-- **The frame.** -/
theorem frame_ok {w w' : World} {τ : Sig} (g : Gam ρ W0 σ s w) (hc : chkS θ s0 (pickF θ s0 s) = true) (hk : okF s0 s0' = true) (g' : Gam (θ.env ρ) w (θ.sig σ ++ τ) s0' w') :
    Gam ρ W0 (σ ++ τ) (framedS θ (extF θ s0 s0') s0 s0' s) w' := by
  simp only [okF, Bool.and_eq_true, List.all_eq_true, decide_eq_true_eq] at hk
  obtain ⟨⟨hk1, hk2⟩, hle⟩ := hk
  have hc0 := hc
  simp only [chkS, Bool.and_eq_true, beq_iff_eq, List.all_eq_true] at hc
  obtain ⟨⟨⟨⟨⟨⟨hok, hn0⟩, hnx⟩, hnd0⟩, hnd⟩, hall⟩, hcov⟩ := hc
  have hnx : θ.nx = s.nx := hnx
  have hl : σ.length = θ.nx := by rw [hnx]; exact g.len
  have hsl : (θ.sig σ).length = s0.nx := by simp [Sub.sig, hn0]
  have hτl : τ.length = s0'.nx - s0.nx := by have := g'.len; rw [List.length_append, hsl] at this; omega
  have hsig := extF_sig hok hl hn0 hle g'.len
  have hok' := extF_ok (s0' := s0') hok hn0 hle
  have hl' : (σ ++ τ).length = (extF θ s0 s0').nx := by simp [extF, hl, hτl]
  have henv : (extF θ s0 s0').env ρ = θ.env ρ := rfl
  have hget : ∀ b, (σ ++ τ)[(extF θ s0 s0').id b]? = (θ.sig σ ++ τ)[b]? := fun b => by rw [← Sub.sig_get hok' hl', hsig]
  have hblk : ∀ b, blk (σ ++ τ) ((extF θ s0 s0').id b) = blk (θ.sig σ ++ τ) b := fun b => by simp only [blk, hget]
  have hold : ∀ d ∈ s.H, blk (σ ++ τ) d.id = blk σ d.id := fun d hd => blk_ext (by rw [g.len]; exact (blk_lt g hd).1)
  -- what is of the template's own, is of ours
  have own0 : ∀ c0 ∈ s0.H, c0.own = true → ∃ d ∈ s.H, d.own = true ∧ d.id = θ.id c0.id ∧ inT θ s0 d.id = true := by
    intro c0 hc0' ho
    have := hall c0 hc0'
    obtain ⟨p, hp, hpk⟩ := List.any_eq_true.1 this
    obtain ⟨d, hd, rfl⟩ := List.mem_map.1 hp
    simp only [chkC, Bool.and_eq_true, beq_iff_eq] at hpk
    have h1 := hpk.1.1.1.1.1.1
    have h2 := hpk.1.1.1.1.1.2
    rw [ho, Bool.and_eq_true] at h2
    refine ⟨d, (List.mem_filter.1 hd).1, h2.1, h1, ?_⟩
    exact h2.2
  have hblk0 : ∀ c ∈ s0'.H, c.id < s0.nx → blk (θ.sig σ ++ τ) c.id = blk σ (θ.id c.id) := fun c _ hlt => by
    simp only [blk]
    rw [List.getElem?_append_left (by omega), Sub.sig_get hok hl]
  -- the blocks of what came, and those that stay
  have apart : ∀ c ∈ s0'.H, c.own = true → ∀ d ∈ s.H, inT θ s0 d.id = false → blk (θ.sig σ ++ τ) c.id ≠ blk σ d.id := by
    intro c hcm ho d hd hT
    have h1 := hk1 c hcm
    rw [ho] at h1
    simp only [Bool.not_true, Bool.false_or] at h1
    split at h1
    · rename_i hlt
      obtain ⟨c0, hc0m, h2⟩ := List.any_eq_true.1 h1
      simp only [Bool.and_eq_true, beq_iff_eq] at h2
      obtain ⟨d', hd', ho', hid', hT'⟩ := own0 c0 hc0m h2.1
      rw [hblk0 c hcm hlt, ← h2.2, ← hid']
      refine g.sep d' hd' d hd ho' fun e => ?_
      rw [e, hT] at hT'
      cases hT'
    · obtain ⟨k, o, cs, e1, e2, e3, e4, _⟩ := g'.ch c hcm
      have h4 := e4 h1
      obtain ⟨_, k', h5, h6⟩ := blk_lt g hd
      rw [h5]
      simp only [blk, e1, Option.map_some, ne_eq, Option.some.injEq]
      omega
  have hstay : ∀ d ∈ s.H, inT θ s0 d.id = false → ∀ k, blk σ d.id = some k → k < w.heap.size → w'.heap[k]? = w.heap[k]? := by
    intro d hd hT k hkb hklt
    refine g'.kept k hklt fun c hcm ho => ?_
    rw [← hkb]
    exact apart c hcm ho d hd hT
  have hfresh : ∀ c ∈ s0'.H, c.own = true → wasFresh θ s0 s c = true → ∀ k o, (θ.sig σ ++ τ)[c.id]? = some (k, o) → W0.heap.size ≤ k := by
    intro c hcm ho hf k o hs
    unfold wasFresh at hf
    split at hf
    · rename_i hlt
      split at hf
      · rename_i d hd
        obtain ⟨hm, hid⟩ := S.find_mem hd
        obtain ⟨k', o', cs, e1, e2, e3, e4, _⟩ := g.ch d hm
        have := e4 hf
        rw [List.getElem?_append_left (by omega), Sub.sig_get hok hl, ← hid, e1] at hs
        cases hs
        exact this
      · cases hf
    · obtain ⟨k', o', cs, e1, e2, e3, e4, _⟩ := g'.ch c hcm
      rw [hs] at e1
      cases e1
      exact Nat.le_trans g.size (e4 hf)
  have hnewlt : ∀ c ∈ s0'.H, c.id < s0'.nx := fun c hcm => (blk_lt g' hcm).1
  have hidnew : ∀ c ∈ s0'.H, c.own = true → ∀ d ∈ s.H, inT θ s0 d.id = false → (extF θ s0 s0').id c.id ≠ d.id := by
    intro c hcm ho d hd hT e
    refine apart c hcm ho d hd hT ?_
    rw [← hblk c.id, e, hold d hd]
  refine ⟨?_, ?_, ?_, ?_, ?_, Nat.le_trans g.size g'.size, g'.tape.trans g.tape, g'.os.trans g.os, g'.out.trans g.out, ?_⟩
  · intro e he
    rcases List.mem_append.1 he with he | he
    · have he := (List.mem_filter.1 he).1
      simp only [pcF, List.mem_map] at he
      obtain ⟨e', he', rfl⟩ := he
      rw [E.sub_n hok]
      exact g'.pc _ (List.mem_filter.1 he').1
    · exact g.pc e he
  · show (σ ++ τ).length = s.nx + (s0'.nx - s0.nx)
    rw [List.length_append, g.len, hτl]
  · show ((newF θ (extF θ s0 s0') s0 s0' s ++ s.H.filter fun d => !inT θ s0 d.id).map (·.id)).Nodup
    rw [List.map_append, List.nodup_append]
    refine ⟨?_, (List.Sublist.map _ List.filter_sublist).nodup g.ids, ?_⟩
    · have e1 : (newF θ (extF θ s0 s0') s0 s0' s).map (·.id) = (s0'.H.filter (·.own)).map fun c => (extF θ s0 s0').id c.id := by simp [newF, List.map_map, Function.comp_def]
      rw [e1]
      have hnd' : ((s0'.H.filter (·.own)).map (·.id)).Nodup := (List.Sublist.map _ List.filter_sublist).nodup g'.ids
      have : (s0'.H.filter (·.own)).map (fun c => (extF θ s0 s0').id c.id) = ((s0'.H.filter (·.own)).map (·.id)).map (extF θ s0 s0').id := by simp [List.map_map, Function.comp_def]
      rw [this]
      refine List.Pairwise.map _ (R := fun a b => a ≠ b ∧ a ∈ (s0'.H.filter (·.own)).map (·.id) ∧ b ∈ (s0'.H.filter (·.own)).map (·.id)) (fun a b hab he => ?_) ?_
      · obtain ⟨hne, ha, hb⟩ := hab
        obtain ⟨c, hcm, rfl⟩ := List.mem_map.1 ha
        obtain ⟨d, hdm, rfl⟩ := List.mem_map.1 hb
        obtain ⟨hcm, hco⟩ := List.mem_filter.1 hcm
        obtain ⟨hdm, hdo⟩ := List.mem_filter.1 hdm
        refine g'.sep c hcm d hdm hco hne ?_
        rw [← hblk, he, hblk]
      · exact List.Pairwise.imp_of_mem (fun ha hb h => ⟨h, ha, hb⟩) hnd'
    · intro a ha b hb hab
      obtain ⟨c, hcm, rfl⟩ := List.mem_map.1 ha
      obtain ⟨d, hdm, rfl⟩ := List.mem_map.1 hb
      obtain ⟨c', hcm', rfl⟩ := List.mem_map.1 hcm
      obtain ⟨hcm', hco⟩ := List.mem_filter.1 hcm'
      obtain ⟨hdm, hdT⟩ := List.mem_filter.1 hdm
      exact hidnew c' hcm' hco d hdm (by simpa using hdT) hab
  · intro c hcm
    rcases List.mem_append.1 hcm with hcm | hcm
    · obtain ⟨c', hcm', rfl⟩ := List.mem_map.1 hcm
      obtain ⟨hcm', hco⟩ := List.mem_filter.1 hcm'
      obtain ⟨k, o, cs, e1, e2, e3, e4, e5⟩ := g'.ch c' hcm'
      refine ⟨k, o, cs, by rw [hget]; exact e1, ?_, e3, fun hf => hfresh c' hcm' hco hf k o e1, ?_⟩
      · rw [subL_cells hok' hl', hsig, henv]; exact e2
      · rw [if_pos hco] at e5
        rw [if_pos (show c'.own = true from hco)]
        obtain ⟨f1, tail, f2, f3, f4⟩ := e5
        refine ⟨f1, tail, f2, f3, fun j st hj => ?_⟩
        simp only [Option.map_eq_some_iff, Prod.mk.injEq] at hj
        obtain ⟨r, hr, rfl, rfl⟩ := hj
        obtain ⟨m, h1, h2⟩ := f4 r.1 r.2 hr
        exact ⟨m, by rw [hget]; exact h1, h2⟩
    · obtain ⟨hcm, hcT⟩ := List.mem_filter.1 hcm
      have hcT : inT θ s0 c.id = false := by simpa using hcT
      obtain ⟨k, o, cs, e1, e2, e3, e4, e5⟩ := g.ch c hcm
      have hheap := hstay c hcm hcT k (by simp [blk, e1]) e3
      refine ⟨k, o, cs, sig_ext e1, cellsL_ext τ _ _ e2, Nat.lt_of_lt_of_le e3 g'.size, e4, ?_⟩
      split at e5
      · rename_i ho
        rw [if_pos ho, hheap]
        obtain ⟨f1, tail, f2, f3, f4⟩ := e5
        refine ⟨f1, tail, f2, f3, fun j st hj => ?_⟩
        obtain ⟨m, h1, h2⟩ := f4 j st hj
        exact ⟨m, sig_ext h1, h2⟩
      · rename_i ho
        rw [if_neg ho]
        intro j v hj
        rw [cell_of_heap (a := ⟨k, o + j, none⟩) hheap]
        exact e5 j v hj
  · intro c hcm d hdm ho hne
    rcases List.mem_append.1 hcm with hcm | hcm <;> rcases List.mem_append.1 hdm with hdm | hdm
    · obtain ⟨c', hcm', rfl⟩ := List.mem_map.1 hcm
      obtain ⟨d', hdm', rfl⟩ := List.mem_map.1 hdm
      obtain ⟨hcm', hco⟩ := List.mem_filter.1 hcm'
      obtain ⟨hdm', hdo⟩ := List.mem_filter.1 hdm'
      rw [hblk, hblk]
      exact g'.sep c' hcm' d' hdm' hco fun e => hne (by show (extF θ s0 s0').id c'.id = (extF θ s0 s0').id d'.id; rw [e])
    · obtain ⟨c', hcm', rfl⟩ := List.mem_map.1 hcm
      obtain ⟨hcm', hco⟩ := List.mem_filter.1 hcm'
      obtain ⟨hdm, hdT⟩ := List.mem_filter.1 hdm
      rw [hblk, hold d hdm]
      exact apart c' hcm' hco d hdm (by simpa using hdT)
    · obtain ⟨d', hdm', rfl⟩ := List.mem_map.1 hdm
      obtain ⟨hdm', hdo⟩ := List.mem_filter.1 hdm'
      obtain ⟨hcm, hcT⟩ := List.mem_filter.1 hcm
      rw [hblk, hold c hcm]
      exact fun e => apart d' hdm' hdo c hcm (by simpa using hcT) e.symm
    · obtain ⟨hcm, hcT⟩ := List.mem_filter.1 hcm
      obtain ⟨hdm, hdT⟩ := List.mem_filter.1 hdm
      rw [hold c hcm, hold d hdm]
      exact g.sep c hcm d hdm ho hne
  · intro k hklt h
    have hne : ∀ c ∈ s0'.H, c.own = true → blk (θ.sig σ ++ τ) c.id ≠ some k := fun c hcm ho => by
      rw [← hblk]
      exact h { c with id := (extF θ s0 s0').id c.id, fresh := wasFresh θ s0 s c, room := c.room.map (fun r => ((extF θ s0 s0').id r.1, r.2)), segs := subL (extF θ s0 s0') c.segs }
        (List.mem_append_left _ (List.mem_map.2 ⟨c, List.mem_filter.2 ⟨hcm, ho⟩, rfl⟩)) ho
    rw [g'.kept k (Nat.lt_of_lt_of_le hklt g.size) hne]
    refine g.kept k hklt fun d hdm ho => ?_
    by_cases hT : inT θ s0 d.id = true
    · unfold inT at hT
      obtain ⟨c0, hc0m, h1⟩ := List.any_eq_true.1 hT
      simp only [Bool.and_eq_true, beq_iff_eq] at h1
      have h2 := hk2 c0 hc0m
      rw [h1.1] at h2
      simp only [Bool.not_true, Bool.false_or] at h2
      obtain ⟨c, hcm, h3⟩ := List.any_eq_true.1 h2
      simp only [Bool.and_eq_true, beq_iff_eq] at h3
      have h4 := hne c hcm h3.1
      have hlt0 : c0.id < s0.nx := by
        have := g.recast (s0 := s0) (θ := θ)
        have hb := List.any_eq_true.1 (hall c0 hc0m)
        obtain ⟨p, hp, hpk⟩ := hb
        simp only [chkC, Bool.and_eq_true, beq_iff_eq] at hpk
        have hpid := hpk.1.1.1.1.1.1
        obtain ⟨d', hd', rfl⟩ := List.mem_map.1 hp
        have hlt := (blk_lt g (List.mem_filter.1 hd').1).1
        have hpid : d'.id = θ.id c0.id := hpid
        rw [hpid] at hlt
        unfold Sub.id at hlt
        split at hlt
        · omega
        · omega
      rw [hblk0 c hcm (by rw [h3.2]; exact hlt0), h3.2, h1.2] at h4
      exact h4
    · have hT : inT θ s0 d.id = false := by simpa using hT
      have := h d (List.mem_append_right _ (List.mem_filter.2 ⟨hdm, by simp [hT]⟩)) ho
      rw [hold d hdm] at this
      exact this
end
end Go.SX
