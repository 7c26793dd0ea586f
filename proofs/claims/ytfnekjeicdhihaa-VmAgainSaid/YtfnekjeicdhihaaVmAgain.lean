/- VmAgain: the same extension, context and answers are run twice alike, the context stays, and answers that are not asked for change nothing: for every input the law tells true, and each argument reads as it read. -/
import Derived.Test.YtfnekjeicdhihaaRows
import Derived.Test.YtfnekjeicdhihaaVmZ
namespace Go.Proofs.Ytfnekjeicdhihaa
open Go.SX Go.ChangeShapes Go.WideShapes Go.ChangeAt Go.RowKit

theorem Try.own : ownKnob Try.prog.godebug = none := by kernel_rfl
theorem Try.laidOut : laidOutB Try.prog = true := by kernel_rfl
theorem array_two {cs : Array Value} (h : cs.size = 2) : ∃ a b, cs = #[a, b] := by
  match cs, h with
  | ⟨[a, b]⟩, _ => exact ⟨a, b, rfl⟩
theorem rowIns : RowTy Try.prog 43 insKs := rowTy_struct Try.underlying43 (by kernel_rfl) rfl (fun j f hj => by
  rcases j with _ | _ | _ | _ | _ | j
  · cases hj; exact ⟨rfl, by kernel_rfl, by kernel_rfl⟩
  · cases hj; exact ⟨rfl, by kernel_rfl, by kernel_rfl⟩
  · cases hj; exact ⟨rfl, by kernel_rfl, by kernel_rfl⟩
  · cases hj; exact ⟨rfl, by kernel_rfl, by kernel_rfl⟩
  · cases hj; exact ⟨rfl, by kernel_rfl, by kernel_rfl⟩
  · simp at hj)
theorem rowByte : RowTy Try.prog 5 [.int .u8] := rowTy_scalar (by kernel_rfl)
theorem rowWord : RowTy Try.prog 30 [.int .u32] := rowTy_scalar (by kernel_rfl)
theorem heap_some : Try.prog.globals.size < (begin Try.prog (fun _ _ => 0) default).world.heap.size := of_decide_eq_true (by kernel_rfl)

/-- What the arguments are, as variables. -/
def envA (W : World) (n : Int) (s1 s2 s3 s4 : Value) : Env := { iv := fun i => if i = 0 then n else if i = 1 then sLen s1 else if i = 2 then sLen s2 else if i = 3 then sLen s3 else if i = 47 then sLen s4 else 0, av := fun i => if i = 3 then rowF W (sAddr s1) 5 else if i = 4 then rowF W (sAddr s2) 1 else if i = 5 then (fun r c => if r < sLen s3 then rowF W (sAddr s3) 1 r c else rowF W (sAddr s4) 1 (r - sLen s3) c) else if i = 7 then rowF W (sAddr s4) 1 else fun _ _ => 0, ov := fun i => if i = 0 then s1 else if i = 1 then s2 else if i = 2 then s3 else s4 }
def sigA (s1 s2 s3 s4 : Value) : Sig := [(0, 0), (0, 0), sAddr s1, sAddr s2, sAddr s3, (0, 0), sAddr s4]
theorem again_calls {W : World} {n : Int} {s1 s2 s3 s4 : Value} (i1 : InSlice W insKs s1) (i2 : InSlice W [.int .u8] s2) (i3 : InSlice W [.int .u32] s3) (i4 : InSlice W [.int .u32] s4) :
    Calls Try.prog 3 #[.agg #[.int .i64 n, s1], s2, .agg #[s3, s4]] W fun e w' => e = .returned (.bool true) ∧ Old W w' := by
  obtain ⟨m, b49, b51, ρe, hC, hT, h69, h69'⟩ := told_some (envA W n s1 s2 s3 s4) (fun r h1 h2 => by
    have := i1.has r 4 h1 h2 (by decide)
    exact this.1)
  generalize hρ : extE (envA W n s1 s2 s3 s4) m b49 b51 ρe = ρ at hC hT h69 h69'
  have v0 : ρ.iv 0 = n := by subst hρ; rfl
  have v1 : ρ.iv 1 = sLen s1 := by subst hρ; rfl
  have v2 : ρ.iv 2 = sLen s2 := by subst hρ; rfl
  have v3 : ρ.iv 3 = sLen s3 := by subst hρ; rfl
  have v47 : ρ.iv 47 = sLen s4 := by subst hρ; rfl
  have a3 : ρ.av 3 = rowF W (sAddr s1) 5 := by subst hρ; rfl
  have a4 : ρ.av 4 = rowF W (sAddr s2) 1 := by subst hρ; rfl
  have a5 : ρ.av 5 = fun (r : Int) c => if r < sLen s3 then rowF W (sAddr s3) 1 r c else rowF W (sAddr s4) 1 (r - sLen s3) c := by subst hρ; rfl
  have a7 : ρ.av 7 = rowF W (sAddr s4) 1 := by subst hρ; rfl
  have o0 : ρ.ov 0 = s1 := by subst hρ; rfl
  have o1 : ρ.ov 1 = s2 := by subst hρ; rfl
  have o2 : ρ.ov 2 = s3 := by subst hρ; rfl
  have o3 : ρ.ov 3 = s4 := by subst hρ; rfl
  have m1 : msOf ρ (sigA s1 s2 s3 s4) 0 2 (.v 1) = some s1 := i1.ms o0 rfl (by rw [E.n_v, v1])
  have m2 : msOf ρ (sigA s1 s2 s3 s4) 1 3 (.v 2) = some s2 := i2.ms o1 rfl (by rw [E.n_v, v2])
  have m3 : msOf ρ (sigA s1 s2 s3 s4) 2 4 (.v 3) = some s3 := i3.ms o2 rfl (by rw [E.n_v, v3])
  have m4 : msOf ρ (sigA s1 s2 s3 s4) 3 6 (.v 47) = some s4 := i4.ms o3 rfl (by rw [E.n_v, v47])
  have hv : valL ρ (sigA s1 s2 s3 s4) lawArgs = some [.agg #[.int .i64 n, s1], s2, .agg #[s3, s4]] := by
    simp only [lawArgs, valL, V.val, cellsL, V.cells, m1, m2, m3, m4, E.n_v, v0, Option.map_some, List.append_nil, List.cons_append, List.nil_append]
  have hg : ∀ pc, PC ρ pc → Gam ρ W (sigA s1 s2 s3 s4) (lawS pc) W := fun pc hp => by
    refine ⟨hp, rfl, (by decide : [2, 3, 4, 6].Nodup), ?_, ?_, Nat.le_refl _, rfl, rfl, rfl, fun _ _ _ => rfl⟩
    · intro c hc
      simp only [lawS, List.mem_cons, List.not_mem_nil, or_false] at hc
      rcases hc with rfl | rfl | rfl | rfl
      · exact i1.chunk (fun r c _ _ => by rw [a3]; rfl) v1 rfl
      · exact i2.chunk (fun r c _ _ => by rw [a4]; rfl) v2 rfl
      · exact i3.chunk (fun r c _ h => by rw [a5]; exact if_pos h) v3 rfl
      · exact i4.chunk (fun r c _ _ => by rw [a7]; rfl) v47 rfl
    · intro c hc d hd ho
      simp only [lawS, List.mem_cons, List.not_mem_nil, or_false] at hc
      rcases hc with rfl | rfl | rfl | rfl <;> cases ho
  have le1 : ∀ a b : E, a.n ρ ≤ b.n ρ → (E.bi .le a b).n ρ ≠ 0 := fun a b h => by rw [E.n_bi]; exact one_ne.2 h
  have lt1 : ∀ a b : E, a.n ρ < b.n ρ → (E.bi .lt a b).n ρ ≠ 0 := fun a b h => by rw [E.n_bi]; exact one_ne.2 h
  have hk5 := k5_ok ρ
  by_cases c1 : ρ.iv 1 ≤ 300
  case neg =>
    refine okLaw_calls hk5 lawB1 (hg _ fun e he => ?_) hv
    simp only [List.mem_cons, List.not_mem_nil, or_false] at he
    subst he
    exact lt1 _ _ (by simp only [E.n_c, E.n_v]; omega)
  by_cases c2 : ρ.iv 2 ≤ 300
  case neg =>
    refine okLaw_calls hk5 lawB2 (hg _ fun e he => ?_) hv
    simp only [List.mem_cons, List.not_mem_nil, or_false] at he
    rcases he with rfl | rfl
    · exact le1 _ _ (by simp only [E.n_c, E.n_v]; omega)
    · exact lt1 _ _ (by simp only [E.n_c, E.n_v]; omega)
  by_cases c3 : ρ.iv 3 ≤ 20
  case neg =>
    refine okLaw_calls hk5 lawB3 (hg _ fun e he => ?_) hv
    simp only [List.mem_cons, List.not_mem_nil, or_false] at he
    rcases he with rfl | rfl | rfl
    · exact le1 _ _ (by simp only [E.n_c, E.n_v]; omega)
    · exact le1 _ _ (by simp only [E.n_c, E.n_v]; omega)
    · exact lt1 _ _ (by simp only [E.n_c, E.n_v]; omega)
  by_cases c4 : ρ.iv 47 ≤ 20
  case neg =>
    refine okLaw_calls hk5 lawB4 (hg _ fun e he => ?_) hv
    simp only [List.mem_cons, List.not_mem_nil, or_false] at he
    rcases he with rfl | rfl | rfl | rfl
    · exact le1 _ _ (by simp only [E.n_c, E.n_v]; omega)
    · exact le1 _ _ (by simp only [E.n_c, E.n_v]; omega)
    · exact le1 _ _ (by simp only [E.n_c, E.n_v]; omega)
    · exact lt1 _ _ (by simp only [E.n_c, E.n_v]; omega)
  have hrow : ∀ r : Nat, (r : Int) < ρ.iv 47 → ρ.av 5 (ρ.iv 3 + r) 0 = ρ.av 7 r 0 := fun r _ => by
    rw [a5, a7, v3]
    show (if (sLen s3 : Int) + r < sLen s3 then _ else rowF W (sAddr s4) 1 ((sLen s3 : Int) + r - sLen s3) 0) = _
    rw [if_neg (by omega), show (sLen s3 : Int) + r - sLen s3 = r by omega]
  have hK := kLaw_ok (kRun_ok (ρ := ρ) (by omega) (by omega) (by omega) (by omega) hrow hC hT) h69'
  refine okLaw_calls hK lawA (hg _ fun e he => ?_) hv
  simp only [pcL, List.mem_cons, List.not_mem_nil, or_false] at he
  rcases he with rfl | rfl | rfl | rfl | rfl | rfl | rfl | rfl | rfl | rfl | rfl <;> exact le1 _ _ (by simp only [E.n_c, E.n_v, E.n_bi, O.den]; omega)

set_option maxRecDepth 100000 in
theorem again_lifted (os : Os) (started : os.Started) (H : Type) (enc : TypeId × Value → H) :
    ReturnsInHanded {} Try.checked os 3 .any (Rows.vmAgainSpec.pre6 enc Try.prog Try.f3 Rows.vmAgainRow.domain false) (Rows.vmAgainSpec.post enc Try.prog Try.f3 false true false false) := by
  refine returnsInHanded_of_change_shaped (C := Try.checked) Try.own started (by kernel_rfl) Try.func3
    (ChangeSpec.witness6 (enc := enc) (C := Try.checked) false ⟨#[], #[.agg #[.int .i64 0, .slice none 0 0], .slice none 0 0, .agg #[.slice none 0 0, .slice none 0 0]], []⟩ 8 (by kernel_rfl) (by kernel_rfl) (by kernel_rfl) (by kernel_rfl)) ?_
  intro W base args ds gs before hval0 hW _ _ hsh _
  have hval : ∀ (j : Nat) t v, Try.f3.params[j]? = some t → args[j]? = some v → Value.okWide Try.prog W .any base t v := hval0
  have hW' := hW
  obtain ⟨p, q, hA0, hV, rfl, hfz, hnd⟩ := hW
  have hA : DataW.TrodAll enc Try.prog W 0 (fun _ => true) true Try.f3.params.toList args.toList ds p := hA0
  rw [Try.params3] at hA hval
  obtain ⟨v0, v1, v2, d0, d1, d2, p0, p1, p2, rfl, rfl, rfl, h0, h1, h2⟩ := trodAll_three hA
  obtain ⟨rfl, rfl⟩ := trodVars_none hV
  have hpos : 0 < W.heap.size := shaped_pos hsh heap_some
  -- the extension
  obtain ⟨cs, rfl, hs0, hr0⟩ := okWide_agg (.inl ⟨_, Try.underlying24⟩) (hval 0 24 v0 rfl rfl)
  obtain ⟨c0, c1, rfl⟩ := array_two (hs0.trans (by kernel_rfl : Try.prog.cellsOf 24 = 2))
  obtain ⟨fuel0, hf0⟩ := h0
  obtain ⟨xs, n0, _, _, _, hxl, hx⟩ := DataW.trod_struct Try.underlying24 hf0
  have hx0 := hx 0 ⟨ "Context", 3, 0, false, "", "", 0⟩ rfl
  have hx1 := hx 1 ⟨ "Ins", 22, 1, false, "", "", 8⟩ rfl
  have e3 : Try.prog.cellsOf 3 = 1 := by kernel_rfl
  have e22 : Try.prog.cellsOf 22 = 1 := by kernel_rfl
  simp only [e3, e22, Value.cells, List.drop_zero, List.drop_succ_cons, List.take_succ_cons, List.take_zero] at hx0 hx1
  rw [List.getElem?_eq_getElem (by rw [hxl]; decide)] at hx0 hx1
  obtain ⟨n, hn, _, _⟩ := DataW.trod_int Try.underlying3 hx0
  simp only [List.cons.injEq, and_true] at hn
  subst hn
  have t24 : Try.prog.cellTypes Try.prog.depth 24 = some [3, 22] := by kernel_rfl
  have i1 := inSlice hpos Try.underlying22 rowIns (by kernel_rfl) (row_cell t24 hr0 (i := 1) (by decide) rfl rfl) hx1
  -- the context
  obtain ⟨fuel1, hf1⟩ := h1
  have hv1 := cell_of_val Try.underlying25 (hval 1 25 v1 rfl rfl)
  have i2 : InSlice W [.int .u8] v1 := by
    obtain ⟨a, len, cap, rfl⟩ := okWide_slice Try.underlying25 (hval 1 25 v1 rfl rfl)
    exact inSlice hpos Try.underlying25 rowByte (by kernel_rfl) hv1 hf1
  -- the answers
  obtain ⟨cs, rfl, hs2, hr2⟩ := okWide_agg (.inr ⟨_, _, Try.underlying27⟩) (hval 2 27 v2 rfl rfl)
  obtain ⟨c2, c3, rfl⟩ := array_two (hs2.trans (by kernel_rfl : Try.prog.cellsOf 27 = 2))
  obtain ⟨fuel2, hf2⟩ := h2
  obtain ⟨ys, n2, _, _, _, hyl, hy⟩ := DataW.trod_array Try.underlying27 hf2
  have hy0 := hy 0 (by decide)
  have hy1 := hy 1 (by decide)
  have e26 : Try.prog.cellsOf 26 = 1 := by kernel_rfl
  simp only [e26, Value.cells, Nat.zero_mul, Nat.one_mul, List.drop_zero, List.drop_succ_cons, List.take_succ_cons, List.take_zero] at hy0 hy1
  rw [List.getElem?_eq_getElem (by rw [hyl]; decide)] at hy0 hy1
  have t27 : Try.prog.cellTypes Try.prog.depth 27 = some [26, 26] := by kernel_rfl
  have i3 := inSlice hpos Try.underlying26 rowWord (by kernel_rfl) (row_cell t27 hr2 (i := 0) (by decide) rfl rfl) hy0
  have i4 := inSlice hpos Try.underlying26 rowWord (by kernel_rfl) (row_cell t27 hr2 (i := 1) (by decide) rfl rfl) hy1
  clear hA0 hval0
  simp only [List.append_nil] at hW'
  refine (again_calls (n := n) i1 i2 i3 i4).mono fun e W' ⟨he, hold⟩ => ?_
  subst he
  exact ⟨_, rfl, law_post (gs := []) Try.laidOut (fun t ht => by
    rw [Try.params3] at ht
    simp only [List.mem_cons, List.not_mem_nil, or_false] at ht
    rcases ht with rfl | rfl | rfl <;> exact ⟨by kernel_rfl, of_decide_eq_true (by kernel_rfl)⟩) rfl rfl (by kernel_rfl) Try.underlying4 hW' hold⟩
theorem again_holds : Rows.VmAgainSaid :=
  OpenClaim.holds_of_wide 3 Try.f3 rfl rfl rfl rfl rfl rfl rfl ⟨rfl, rfl, rfl, rfl, rfl⟩ rfl rfl rfl rfl rfl (by kernel_rfl) Try.func3 (by kernel_rfl)
    (of_decide_eq_true (by kernel_rfl)) (by unfold Func.isWrapper; rw [if_neg (of_decide_eq_false (by kernel_rfl))]; exact ⟨rfl, rfl⟩)
    (fun os started H enc _ => again_lifted os started H enc)
end Go.Proofs.Ytfnekjeicdhihaa
