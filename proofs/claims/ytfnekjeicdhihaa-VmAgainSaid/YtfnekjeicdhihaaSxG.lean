/- A symbolic executor, part G: the operations, one by one. -/
import Derived.Test.YtfnekjeicdhihaaSxF
import Derived.Laws.Tables
import Derived.Laws.Build
namespace Go.SX

/-! ### Values built -/
theorem set_take_drop {α : Type} (L : List α) (q n : Nat) (v : α) (vs : List α) (h : q < L.length) :
    (L.set q v).take (q + 1) ++ vs ++ (L.set q v).drop (q + 1 + n) = L.take q ++ (v :: vs) ++ L.drop (q + (n + 1)) := by
  have e1 : (L.set q v).take (q + 1) = L.take q ++ [v] := by
    rw [List.take_succ_eq_append_getElem (by simpa using h), take_set_self]; simp
  have e2 : (L.set q v).drop (q + 1 + n) = L.drop (q + 1 + n) := by
    apply List.ext_getElem?
    intro j
    simp only [List.getElem?_drop]
    rw [List.getElem?_set_ne (by omega)]
  rw [e1, e2]
  simp only [List.append_assoc, List.cons_append, List.nil_append]
  congr 4
  omega
theorem foldl_set : ∀ (vs : List Value) (k off : Nat) (cs : Array Value), off + k + vs.length ≤ cs.size →
    ((vs.zipIdx k).foldl (fun (cs : Array Value) (x : Value × Nat) => cs.setIfInBounds (off + x.2) x.1) cs).toList = cs.toList.take (off + k) ++ vs ++ cs.toList.drop (off + k + vs.length)
  | [], k, off, cs, h => by simp
  | v :: vs, k, off, cs, h => by
    simp only [List.length_cons] at h
    have ih := foldl_set vs (k + 1) off (cs.setIfInBounds (off + k) v) (by simp; omega)
    simp only [List.zipIdx_cons, List.foldl_cons]
    rw [ih]
    simp only [Array.toList_setIfInBounds, List.length_cons]
    exact set_take_drop cs.toList (off + k) vs.length v vs (by simp; omega)

def fillV (place : Nat → Option (Nat × Nat)) : List V → List (Nat × V) → Option (List V)
  | segs, [] => some segs
  | segs, (i, v) :: rest => match place i with
    | some (off, size) => if ncL v.flat = some size ∧ 0 < size then match putC [] segs off v.flat size with
        | some segs' => fillV place segs' rest
        | none => none
      else none
    | none => none
theorem fillV_ok {ρ : Env} {σ : Sig} (place : Nat → Option (Nat × Nat)) : ∀ (parts : List (Nat × V)) (segs r : List V) (cs : Array Value) (ps : List (Nat × Value)), fillV place segs parts = some r → cellsL ρ σ segs = some cs.toList →
    (∀ (j : Nat) (p : Nat × V), parts[j]? = some p → ∃ q : Nat × Value, ps[j]? = some q ∧ q.1 = p.1 ∧ p.2.val ρ σ = some q.2) → parts.length = ps.length → ∃ cs', Instr.fill place cs ps = some cs' ∧ cellsL ρ σ r = some cs'.toList
  | [], segs, r, cs, ps, h, hc, hp, hl => by
    cases ps with
    | nil => simp only [fillV, Option.some.injEq] at h; subst h; exact ⟨cs, rfl, hc⟩
    | cons _ _ => simp at hl
  | (i, v) :: rest, segs, r, cs, ps, h, hc, hp, hl => by
    cases ps with
    | nil => simp at hl
    | cons q ps =>
      obtain ⟨q', e1, e2, e3⟩ := hp 0 (i, v) (by simp)
      simp only [List.getElem?_cons_zero, Option.some.injEq] at e1
      subst e1
      obtain ⟨qi, qv⟩ := q
      dsimp only at e2 e3
      subst e2
      simp only [fillV] at h
      split at h
      · rename_i off size hpl
        split at h
        · rename_i hszp
          obtain ⟨hsz, hpos⟩ := hszp
          split at h
          · rename_i segs' hput
            rcases V.val_cells e3 with ⟨l, rfl⟩ | hvc
            · rw [flat_tup] at hsz; cases hsz
            · have hf := V.flat_cells ρ σ v _ hvc
              have hlen := ncL_cells ρ σ _ _ _ hsz hf
              have hpc : PC ρ [] := by intro e he; cases he
              obtain ⟨h1, h2⟩ := putC_ok (ρ := ρ) (σ := σ) hpc _ _ _ _ _ _ _ hput hc hf hlen
              have hlen' : qv.cells.size = size := by simpa using hlen
              have hin : off + size ≤ cs.size := by
                rcases h1 with h1 | h1
                · omega
                · simpa using h1
              have hfold := foldl_set qv.cells.toList 0 off cs (by simp; omega)
              have hfe : (qv.cells.zipIdx.foldl (fun (cs : Array Value) (x : Value × Nat) => cs.setIfInBounds (off + x.2) x.1) cs) = (qv.cells.toList.zipIdx.foldl (fun (cs : Array Value) (x : Value × Nat) => cs.setIfInBounds (off + x.2) x.1) cs) := by
                rw [← Array.foldl_toList, Array.toList_zipIdx]
              have hc' : cellsL ρ σ segs' = some (qv.cells.zipIdx.foldl (fun (cs : Array Value) (x : Value × Nat) => cs.setIfInBounds (off + x.2) x.1) cs).toList := by
                rw [hfe, hfold, h2, hlen]; rfl
              obtain ⟨cs', h3, h4⟩ := fillV_ok place rest segs' r _ ps h hc' (fun j p hj => by simpa using hp (j + 1) p (by simpa using hj)) (by simpa using hl)
              refine ⟨cs', ?_, h4⟩
              simp only [Instr.fill, hpl]
              rw [if_neg (by simp [hlen']; omega)]
              exact h3
          · cases h
        · cases h
      · cases h
end Go.SX
