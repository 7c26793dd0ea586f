/- A symbolic executor, part U: rows out of what an argument reads as. -/
import Derived.Test.YtfnekjeicdhihaaSxQ
import Derived.ProofKit
import Derived.HandedShaped
import Derived.Deep.Slices
import Derived.OpenShut
import Derived.Below
import Derived.ChangeSame
namespace Go.SX

def numV : Value → Int
  | .int _ n => n
  | .bool b => if b = true then 1 else 0
  | _ => 0
def CK.has : CK → Int → Prop
  | .int k, n => k.min ≤ n ∧ n ≤ k.max
  | .bool, n => n = 0 ∨ n = 1
theorem numV_mk {k : CK} {n : Int} (h : k.has n) : numV (k.mk n) = n := by
  cases k with
  | int k => rfl
  | bool => rcases h with rfl | rfl <;> rfl
/-- A type whose cells are numbers of these kinds. -/
def RowTy (P : Program) (e : TypeId) (ks : List CK) : Prop := ∀ (H : Type) (enc : TypeId × Value → H) (w : World) (sp : Nat → Bool) (held : Bool) (fuel : Nat) (cs : List Value) (y : DataW H × List MemPlace),
  DataW.trod enc P w 0 sp held fuel e cs = some y → cs.length = ks.length ∧ ∀ j, j < ks.length → ∃ x, cs[j]? = some ((ks.getD j .bool).mk x) ∧ (ks.getD j .bool).has x
theorem rowTy_scalar {P : Program} {e : TypeId} {k : CK} (h : scalarK P e = some k) : RowTy P e [k] := by
  intro H enc w sp held fuel cs y hy
  unfold scalarK at h
  split at h
  · rename_i hu
    cases h
    obtain ⟨b, rfl, _⟩ := DataW.trod_bool hu hy
    refine ⟨rfl, fun j hj => ?_⟩
    obtain rfl : j = 0 := by simp at hj; omega
    refine ⟨if b = true then 1 else 0, ?_, ?_⟩
    · cases b <;> rfl
    · cases b
      · left; rfl
      · right; rfl
  · rename_i kd hu
    cases h
    obtain ⟨n, rfl, _, hwf⟩ := DataW.trod_int hu hy
    refine ⟨rfl, fun j hj => ?_⟩
    obtain rfl : j = 0 := by simp at hj; omega
    exact ⟨n, rfl, by simp [Lit.wf] at hwf; exact hwf⟩
  · cases h
theorem rowTy_struct {P : Program} {e : TypeId} {fs : Array Field} {ks : List CK} (hu : P.underlying e = some (.struct fs)) (hN : P.cellsOf e = ks.length) (hl : fs.size = ks.length)
    (hf : ∀ (j : Nat) (f : Field), fs[j]? = some f → f.offset = j ∧ P.cellsOf f.type = 1 ∧ scalarK P f.type = some (ks.getD j .bool)) : RowTy P e ks := by
  intro H enc w sp held fuel cs y hy
  obtain ⟨xs, n, _, _, h1, h2, h3⟩ := DataW.trod_struct hu hy
  refine ⟨h1.trans hN, fun j hj => ?_⟩
  have hjf : j < fs.size := by omega
  have hfj : fs[j]? = some fs[j] := by simp [hjf]
  obtain ⟨f1, f2, f3⟩ := hf j fs[j] hfj
  have h4 := h3 j fs[j] hfj
  rw [f1, f2, List.getElem?_eq_getElem (by omega)] at h4
  obtain ⟨_, h5⟩ := rowTy_scalar f3 H enc w sp held n _ _ h4
  obtain ⟨x, h6, h7⟩ := h5 0 (by simp)
  refine ⟨x, ?_, h7⟩
  rw [List.getElem?_take_of_lt (by omega), List.getElem?_drop, Nat.add_zero] at h6
  simpa using h6

/-- A row of cells, as numbers. -/
def rowF (w : World) (p : Nat × Nat) (n : Nat) : Int → Nat → Int := fun r c => numV ((w.cell? ⟨p.1, p.2 + (r.toNat * n + c), none⟩).getD undef)
def sAddr : Value → Nat × Nat
  | .slice (some a) _ _ => (a.block, a.off)
  | _ => (0, 0)
def sLen : Value → Nat
  | .slice _ n _ => n
  | _ => 0
/-- A slice of such, that came in. -/
structure InSlice (w : World) (ks : List CK) (v : Value) : Prop where
  blk : (sAddr v).1 < w.heap.size
  val : v = .slice none 0 0 ∨ ∃ cap, v = .slice (some ⟨(sAddr v).1, (sAddr v).2, none⟩) (sLen v) cap
  cells : ∀ (p : Nat) (x : Value), (arrCells (rowF w (sAddr v) ks.length) ks (sLen v))[p]? = some x → w.cell? ⟨(sAddr v).1, (sAddr v).2 + p, none⟩ = some x
  has : ∀ (r : Int) (c : Nat), 0 ≤ r → r < sLen v → c < ks.length → (ks.getD c .bool).has (rowF w (sAddr v) ks.length r c)
theorem inSlice {P : Program} {w : World} {t e : TypeId} {ks : List CK} {v : Value} {H : Type} {enc : TypeId × Value → H} {sp : Nat → Bool} {held : Bool} {fuel : Nat} {y : DataW H × List MemPlace} {r : Reach} {b0 : Nat} (hpos : 0 < w.heap.size)
    (hu : P.underlying t = some (.slice e)) (hr : RowTy P e ks) (hN : P.cellsOf e = ks.length) (hok : Cell.okWide P w r b0 t v) (h : DataW.trod enc P w 0 sp held fuel t [v] = some y) : InSlice w ks v := by
  rcases Deep.open_slice hu h with ⟨h1, _⟩ | ⟨a, len, cap, m, n, D, Pl, h1, _, hlc, _, hm, _, hx⟩
  · cases h1
    exact ⟨hpos, .inl rfl, fun p x h => by simp [arrCells, sLen] at h, fun r c h1 h2 => by simp [sLen] at h2; omega⟩
  · cases h1
    simp only [Cell.okWide, hu, Cell.ok] at hok
    obtain ⟨_, _, _, hspot, row, cells, hshape, _⟩ := hok
    have ha : a = ⟨a.block, a.off, none⟩ := by cases a; simp at hspot; simp [hspot]
    have hlm : len ≤ m := by rw [hm]; split <;> omega
    have hcell : ∀ i j, i < len → j < ks.length → ∃ x, w.cell? ⟨a.block, a.off + (i * ks.length + j), none⟩ = some ((ks.getD j .bool).mk x) ∧ (ks.getD j .bool).has x := by
      intro i j hi hj
      obtain ⟨cs', h2, h3⟩ := hx i (by omega)
      obtain ⟨h4, h5⟩ := hr H enc w sp held n cs' _ h3
      obtain ⟨x, h6, h7⟩ := h5 j hj
      refine ⟨x, ?_, h7⟩
      unfold World.cells? at h2
      rw [if_pos (Nat.zero_le _)] at h2
      have h8 : ∀ (l : List Nat) (cs : List Value), l.mapM (fun i_1 => w.cell? ((a.add (i * P.cellsOf e)).add i_1)) = some cs → ∀ (q : Nat) (z : Value), cs[q]? = some z → ∃ k : Nat, l[q]? = some k ∧ w.cell? ((a.add (i * P.cellsOf e)).add k) = some z := by
        intro l
        induction l with
        | nil => intro cs h q z hq; simp at h; subst h; simp at hq
        | cons k l ih =>
          intro cs h q z hq
          simp only [List.mapM_cons, Option.bind_eq_bind, Option.pure_def, Option.bind_eq_some_iff, Option.some.injEq] at h
          obtain ⟨b, hb, m', hm', rfl⟩ := h
          cases q with
          | zero => simp at hq; subst hq; exact ⟨k, rfl, hb⟩
          | succ q => exact ih m' hm' q z (by simpa using hq)
      obtain ⟨k, hk, hz⟩ := h8 _ _ h2 j _ h6
      have hk2 := List.getElem?_eq_some_iff.1 hk
      obtain ⟨hk3, hk4⟩ := hk2
      simp at hk4
      subst hk4
      rw [ha, add_mk, add_mk, hN, Nat.add_assoc] at hz
      exact hz
    have hval : ∀ i j, i < len → j < ks.length → rowF w (a.block, a.off) ks.length (i : Int) j = numV ((w.cell? ⟨a.block, a.off + (i * ks.length + j), none⟩).getD undef) := fun i j _ _ => by
      simp only [rowF, Int.toNat_natCast]
    refine ⟨?_, .inr ⟨cap, by rw [ha]; rfl⟩, fun p x hp => ?_, fun r c h1 h2 h3 => ?_⟩
    · show a.block < w.heap.size
      unfold World.shape? at hshape
      by_cases hlt : a.block < w.heap.size
      · exact hlt
      · rw [Array.getElem?_eq_none (by omega)] at hshape
        simp at hshape
    · have hp' : p < len * ks.length := by
        have := (List.getElem?_eq_some_iff.1 hp).1
        rw [arrCells_length] at this
        exact this
      rw [show sLen (Value.slice (some a) len cap) = len from rfl, arrCells_get _ _ _ _ hp'] at hp
      have hks : 0 < ks.length := Nat.pos_of_ne_zero fun h => by rw [h] at hp'; simp at hp'
      have hj := Nat.mod_lt p hks
      have hi : p / ks.length < len := by rw [Nat.div_lt_iff_lt_mul hks]; exact hp'
      obtain ⟨z, h1, h2⟩ := hcell (p / ks.length) (p % ks.length) hi hj
      have hpp : p / ks.length * ks.length + p % ks.length = p := by rw [Nat.mul_comm]; exact Nat.div_add_mod p ks.length
      rw [hpp] at h1
      show w.cell? ⟨a.block, a.off + p, none⟩ = some x
      rw [h1]
      simp only [arrCell, Option.some.injEq] at hp
      rw [← hp]
      have := hval (p / ks.length) (p % ks.length) hi hj
      rw [hpp, h1, Option.getD_some, numV_mk h2] at this
      show some ((ks.getD (p % ks.length) .bool).mk z) = some ((ks.getD (p % ks.length) .bool).mk (rowF w (a.block, a.off) ks.length (p / ks.length : Nat) (p % ks.length)))
      rw [this]
    · obtain ⟨q, rfl⟩ := Int.eq_ofNat_of_zero_le h1
      have h2 : q < len := by have h2 : (q : Int) < (len : Nat) := h2; omega
      obtain ⟨z, h4, h5⟩ := hcell q c h2 h3
      have := hval q c h2 h3
      rw [h4, Option.getD_some, numV_mk h5] at this
      show (ks.getD c .bool).has (rowF w (a.block, a.off) ks.length (q : Int) c)
      rw [this]
      exact h5
theorem InSlice.ms {w : World} {ks : List CK} {v : Value} (h : InSlice w ks v) {ρ : Env} {σ : Sig} {o b : Nat} {len : E} (ho : ρ.ov o = v) (hb : σ[b]? = some (sAddr v)) (hl : len.n ρ = sLen v) : msOf ρ σ o b len = some v := by
  unfold msOf
  rcases h.val with hv | ⟨cap, hv⟩
  · have h0 : sLen v = 0 := by rw [hv]; rfl
    rw [ho, hb, hv]
    exact if_pos (by rw [hl, h0]; rfl)
  · rw [ho, hb]
    generalize hq : sAddr v = q at *
    generalize hm : sLen v = m at *
    obtain ⟨q1, q2⟩ := q
    subst hv
    exact if_pos ⟨rfl, hl.symm⟩
theorem arrCells_congr {f g : Int → Nat → Int} {ks : List CK} {n : Nat} (h : ∀ r c, 0 ≤ r → r < (n : Int) → f r c = g r c) : arrCells f ks n = arrCells g ks n := by
  unfold arrCells
  apply List.map_congr_left
  intro p hp
  have hp := List.mem_range.1 hp
  have hks : 0 < ks.length := Nat.pos_of_ne_zero fun h => by rw [h] at hp; simp at hp
  have hi : p / ks.length < n := by rw [Nat.div_lt_iff_lt_mul hks]; exact hp
  simp only [arrCell]
  rw [h _ _ (Int.natCast_nonneg _) (by omega)]
theorem InSlice.chunk {w W0 : World} {ks : List CK} {v : Value} (h : InSlice w ks v) {ρ : Env} {σ : Sig} {i j b : Nat} {elem : TypeId} (ha : ∀ r c, 0 ≤ r → r < (sLen v : Int) → ρ.av i r c = rowF w (sAddr v) ks.length r c) (hj : ρ.iv j = sLen v) (hb : σ[b]? = some (sAddr v)) :
    (⟨b, false, elem, false, false, none, [.arr (.av i) ks (.v j)]⟩ : Chunk).ok ρ W0 σ w := by
  refine ⟨(sAddr v).1, (sAddr v).2, arrCells (rowF w (sAddr v) ks.length) ks (sLen v) ++ [], hb, ?_, h.blk, (fun h => Bool.noConfusion h), ?_⟩
  · simp only [cellsL, V.cells, natOf, E.n_v, E.a_av, hj]
    rw [if_pos (Int.natCast_nonneg _), Int.toNat_natCast, ← arrCells_congr ha]
    rfl
  · rw [if_neg (by simp)]
    intro p x hp
    rw [List.append_nil] at hp
    exact h.cells p x hp
/-- A world has blocks. -/
theorem shaped_pos {P : Program} {W : World} (h : W.ShapedOpen P) (hb : P.globals.size < (begin P (fun _ _ => 0) default).world.heap.size) : 0 < W.heap.size := by
  obtain ⟨o, _, h1, _⟩ := h.2 P.globals.size (Nat.le_refl _) hb
  have := (Array.getElem?_eq_some_iff.1 h1).1
  omega
/-- A cell of a row has its type's form. -/
theorem row_cell {P : Program} {w : World} {r : Reach} {b0 : Nat} {t u : TypeId} {cs : Array Value} {ts : List TypeId} (hts : P.cellTypes P.depth t = some ts) (h : Row.okWide P w r b0 t cs) {i : Nat} {v : Value} (hi : i < ts.length) (hv : cs[i]? = some v) (hu : ts[i]? = some u) : Cell.okWide P w r b0 u v := by
  obtain ⟨ts', h1, _, h2⟩ := h
  rw [hts] at h1
  cases h1
  obtain ⟨u', h3, h4⟩ := h2 i v hv
  rw [Nat.mod_eq_of_lt hi, hu] at h3
  cases h3
  exact h4
theorem okWide_agg {P : Program} {w : World} {r : Reach} {b0 : Nat} {t : TypeId} {v : Value} (h : (∃ fs, P.underlying t = some (.struct fs)) ∨ ∃ n e, P.underlying t = some (.array n e)) (hv : Value.okWide P w r b0 t v) : ∃ cs, v = .agg cs ∧ cs.size = P.cellsOf t ∧ Row.okWide P w r b0 t cs := by
  rcases h with ⟨fs, h⟩ | ⟨n, e, h⟩ <;> simpa only [Value.okWide, h] using hv
theorem cell_of_val {P : Program} {w : World} {r : Reach} {b0 : Nat} {t e : TypeId} {v : Value} (h : P.underlying t = some (.slice e)) (hv : Value.okWide P w r b0 t v) : Cell.okWide P w r b0 t v := by
  simpa only [Value.okWide, h] using hv

section
open RowKit WideShapes ChangeShapes
variable {H : Type} {enc : TypeId × Value → H} {P : Program}
theorem trodAll_stays (hl : laidOutB P = true) {W W' : World} {sp' : Nat → Bool} : ∀ {ts : List TypeId} {vs : List Value} {ds : List (DataW H)} {ps : List MemPlace}, (∀ t ∈ ts, P.readableRec t = true ∧ t < P.types.size) →
    DataW.TrodAll enc P W 0 (fun _ => true) true ts vs ds ps → (∀ p ∈ ps, W.sameAt W' p) → (∀ p ∈ ps, sp' p.block = true) → DataW.TrodAll enc P W' 0 sp' true ts vs ds ps
  | [], [], [], ps, _, h, _, _ => h
  | t :: ts, v :: vs, d :: ds, ps, hr, h, h1, h2 => by
    obtain ⟨p, q, ha, hb, rfl⟩ := h
    have hrt := hr t List.mem_cons_self
    exact ⟨p, q, WideElems.Trod_stays hl hrt.1 hrt.2 ha (fun x hx => h1 x (List.mem_append_left _ hx)) (fun x hx => h2 x (List.mem_append_left _ hx)),
      trodAll_stays hl (fun t ht => hr t (List.mem_cons_of_mem _ ht)) hb (fun x hx => h1 x (List.mem_append_right _ hx)) (fun x hx => h2 x (List.mem_append_right _ hx)), rfl⟩
  | [], [], _ :: _, _, _, h, _, _ => h.elim
  | [], _ :: _, _, _, _, h, _, _ => by cases h
  | _ :: _, [], _, _, _, h, _, _ => by cases h
  | _ :: _, _ :: _, [], _, _, h, _, _ => by cases h
theorem Old.below {W W' : World} (h : Old W W') : Below W.heap.size W W' := ⟨h.os, h.tape, h.out, h.size, h.same⟩
/-- A law that tells true and changes nothing. -/
theorem law_post {f : Func} {s : ChangeSpec} {apart fresh handsOn again : Bool} {W W' : World} {args : Array Value} {ds gs : List (DataW H)} {before : List MemPlace} {tb : TypeId}
    (hl : laidOutB P = true) (hr : ∀ t ∈ f.params.toList, P.readableRec t = true ∧ t < P.types.size) (hvars : s.vars = []) (hfn : s.fn H (ds ++ gs) = { results := [.lit (.bool true)], args := ds }) (hrt : f.resultTypes = #[tb]) (hb : P.underlying tb = some .bool)
    (hW : DataW.Whole enc P f.params.toList s.vars apart W args.toList ds gs before) (hold : Old W W') : s.post enc P f apart fresh handsOn again W args (.bool true) W' := by
  have hlt : ∀ p ∈ before, p.block < W.heap.size := fun p hp => hW.lt p hp
  have hsp : ∀ p ∈ before, (fun b => decide (b < W.heap.size)) p.block = true := fun p hp => by simpa using hlt p hp
  have hbe := hold.below
  have hW0 := hW
  obtain ⟨p, q, hA, hV, hpq, hz, hn⟩ := hW
  rw [hvars] at hV
  obtain ⟨hg, hq⟩ := trodVars_none hV
  subst hg; subst hq
  have hpq : before = p := by simpa using hpq
  subst hpq
  have hargs : ∀ sp : Nat → Bool, (∀ x ∈ before, sp x.block = true) → DataW.TrodAll enc P W' 0 sp true f.params.toList args.toList ds before := fun sp hs =>
    trodAll_stays hl hr hA (fun x hx => hbe.same (hlt x hx)) hs
  have hres : ∀ (b : Nat) (sp : Nat → Bool) (hd : Bool), DataW.TrodAll enc P W' b sp hd f.resultTypes.toList ((Value.bool true).resultList f.resultTypes.size) [.lit (.bool true)] [] := fun b sp hd => by
    rw [hrt]
    exact trodAll_mk1 (shut_bool hb true)
  have hargs2 : ∀ sp : Nat → Bool, (∀ x ∈ before, sp x.block = true) → DataW.TrodAll enc P W' 0 sp true f.params.toList args.toList (s.fn H (ds ++ [])).args before := fun sp hs => by rw [hfn]; exact hargs sp hs
  have hres2 : ∀ (b : Nat) (sp : Nat → Bool) (hd : Bool), DataW.TrodAll enc P W' b sp hd f.resultTypes.toList ((Value.bool true).resultList f.resultTypes.size) (s.fn H (ds ++ [])).results [] := fun b sp hd => by rw [hfn]; exact hres b sp hd
  have hvars2 : ∀ sp : Nat → Bool, DataW.TrodVars enc P W' sp s.vars (s.fn H (ds ++ [])).vars [] := fun sp => by rw [hvars, hfn]; exact rfl
  refine ⟨ds, [], before, [], before, [], hW0, hres2 _ _ _, hargs2 _ hsp, hvars2 _, World.keptBut_mono (fun x hx => ⟨hx, .inr (.inl hx)⟩) (hbe.frame (· ∈ before)), fun _ => ?_⟩
  have hok : ∀ (j : Nat) (t : TypeId) (r : Value), f.resultTypes[j]? = some t → ((Value.bool true).resultList f.resultTypes.size)[j]? = some r → Value.okWide P W' .any 0 t r := ok_one hrt rfl (okWide_bool_mk hb true)
  refine ⟨hok, _, _, ([] ++ before) ++ [], ⟨[] ++ before, [], trodAll_append (hargs2 _ (fun _ _ => rfl)) (hres2 _ _ _), hvars2 _, rfl, ?_, ?_⟩, ?_⟩
  · intro b off hp
    have hin : MemPlace.cell b off ∈ before := by simpa using hp
    rw [hbe.frozen (hlt _ hin)]
    exact hz b off (by simpa using hin)
  · intro ha
    have := hn ha
    simpa using this
  · intro p hp _
    simpa using hp
end
end Go.SX
