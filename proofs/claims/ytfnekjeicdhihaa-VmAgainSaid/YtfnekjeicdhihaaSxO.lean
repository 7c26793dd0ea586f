/- A symbolic executor, part O: a state seen anew, with other variables. -/
import Derived.Test.YtfnekjeicdhihaaSxL
namespace Go.SX

/-- What a template's variables and blocks stand for in a state. -/
structure Sub where
  iv : List (Nat × E)
  av : List (Nat × E)
  ids : List (Nat × Nat)
  n0 : Nat
  nx : Nat

def lk {α : Type} (l : List (Nat × α)) (i : Nat) (d : α) : α := match l.find? (·.1 == i) with
  | some p => p.2
  | none => d
theorem lk_mem {α : Type} (l : List (Nat × α)) (i : Nat) (d : α) : lk l i d = d ∨ ∃ p ∈ l, lk l i d = p.2 := by
  unfold lk; split
  · rename_i p hp; exact .inr ⟨p, List.mem_of_find?_eq_some hp, rfl⟩
  · exact .inl rfl
def Sub.env (θ : Sub) (ρ : Env) : Env := ⟨fun i => (lk θ.iv i (.v i)).n ρ, fun i => (lk θ.av i (.av i)).a ρ, ρ.ov⟩
def Sub.id (θ : Sub) (b : Nat) : Nat := if b < θ.n0 then lk θ.ids b b else θ.nx
def Sub.sig (θ : Sub) (σ : Sig) : Sig := (List.range θ.n0).map fun b => σ.getD (θ.id b) (0, 0)
def E.sortI : E → Bool
  | .av _ | .zz | .set .. => false
  | _ => true
def E.sortA : E → Bool
  | .av _ | .zz | .set .. => true
  | _ => false
def Sub.ok (θ : Sub) : Bool := θ.iv.all (fun p => p.2.sortI) && θ.av.all (fun p => p.2.sortA) && (List.range θ.n0).all fun b => decide (θ.id b < θ.nx)
theorem E.sortI_a {e : E} (h : e.sortI = true) (ρ : Env) : e.den ρ = (e.n ρ, fun _ _ => 0) := by cases e <;> first | rfl | simp [E.sortI] at h
theorem E.sortA_n {e : E} (h : e.sortA = true) (ρ : Env) : e.den ρ = (0, e.a ρ) := by cases e <;> first | rfl | simp [E.sortA] at h

def E.sub (θ : Sub) : E → E
  | .c n => .c n
  | .v i => lk θ.iv i (.v i)
  | .un o a => mkU o (a.sub θ)
  | .bi o a b => mkB0 o (a.sub θ) (b.sub θ)
  | .te x a b => .te (x.sub θ) (a.sub θ) (b.sub θ)
  | .av i => lk θ.av i (.av i)
  | .zz => .zz
  | .set a i k x => .set (a.sub θ) (i.sub θ) k (x.sub θ)
  | .get a i k => .get (a.sub θ) (i.sub θ) k

section
variable {θ : Sub} {ρ : Env} {σ : Sig}
theorem Sub.ok_i (h : θ.ok = true) (i : Nat) : (lk θ.iv i (.v i)).sortI = true := by
  simp only [Sub.ok, Bool.and_eq_true, List.all_eq_true] at h
  rcases lk_mem θ.iv i (.v i) with e | ⟨p, hp, e⟩
  · rw [e]; rfl
  · rw [e]; exact h.1.1 p hp
theorem Sub.ok_a (h : θ.ok = true) (i : Nat) : (lk θ.av i (.av i)).sortA = true := by
  simp only [Sub.ok, Bool.and_eq_true, List.all_eq_true] at h
  rcases lk_mem θ.av i (.av i) with e | ⟨p, hp, e⟩
  · rw [e]; rfl
  · rw [e]; exact h.1.2 p hp
theorem Sub.ok_b (h : θ.ok = true) {b : Nat} (hb : b < θ.n0) : θ.id b < θ.nx := by
  simp only [Sub.ok, Bool.and_eq_true, List.all_eq_true] at h
  simpa using h.2 b (List.mem_range.2 hb)
theorem mkU_den (o : U) (a : E) : (mkU o a).den ρ = (E.un o a).den ρ := by unfold mkU; split <;> rfl
theorem mkB0_den (o : O) (a b : E) : (mkB0 o a b).den ρ = (E.bi o a b).den ρ := by unfold mkB0; split <;> rfl
theorem E.sub_den (h : θ.ok = true) : ∀ e : E, (e.sub θ).den ρ = e.den (θ.env ρ)
  | .c _ => rfl
  | .v i => by rw [E.sub, E.sortI_a (Sub.ok_i h i)]; rfl
  | .un o a => by simp only [E.sub, mkU_den, E.den, E.sub_den h a]
  | .bi o a b => by simp only [E.sub, mkB0_den, E.den, E.sub_den h a, E.sub_den h b]
  | .te x a b => by simp only [E.sub, E.den, E.sub_den h x, E.sub_den h a, E.sub_den h b]
  | .av i => by rw [E.sub, E.sortA_n (Sub.ok_a h i)]; rfl
  | .zz => rfl
  | .set a i k x => by simp only [E.sub, E.den, E.sub_den h a, E.sub_den h i, E.sub_den h x]
  | .get a i k => by simp only [E.sub, E.den, E.sub_den h a, E.sub_den h i]
theorem E.sub_n (h : θ.ok = true) (e : E) : (e.sub θ).n ρ = e.n (θ.env ρ) := by simp only [E.n, E.sub_den h]
theorem E.sub_a (h : θ.ok = true) (e : E) : (e.sub θ).a ρ = e.a (θ.env ρ) := by simp only [E.a, E.sub_den h]
theorem Sub.sig_get (h : θ.ok = true) (hl : σ.length = θ.nx) (b : Nat) : (θ.sig σ)[b]? = σ[θ.id b]? := by
  simp only [Sub.sig, List.getElem?_map]
  by_cases hb : b < θ.n0
  · have := Sub.ok_b h hb
    rw [List.getElem?_range hb, Option.map_some, List.getD_eq_getElem?_getD, List.getElem?_eq_getElem (by omega)]
    rfl
  · rw [List.getElem?_eq_none (by simpa using hb), Option.map_none, Sub.id, if_neg hb, List.getElem?_eq_none (by omega)]

def Cap.sub (θ : Sub) : Cap → Cap
  | .e x => .e (x.sub θ)
  | .s i => .s (θ.id i)
mutual
def V.sub (θ : Sub) : V → V
  | .int k e => .int k (e.sub θ)
  | .bool e => .bool (e.sub θ)
  | .ptr b c s i => .ptr (θ.id b) c s (i.sub θ)
  | .nilp => .nilp
  | .slice b c s i l m => .slice (θ.id b) c s (i.sub θ) (l.sub θ) (m.sub θ)
  | .nils => .nils
  | .ms o b l => .ms o (θ.id b) (l.sub θ)
  | .fn f cs => .fn f (subL θ cs)
  | .nilf => .nilf
  | .iface t v => .iface t (v.sub θ)
  | .nili => .nili
  | .str s => .str s
  | .bs a n => .bs (a.sub θ) (n.sub θ)
  | .mapr b => .mapr (θ.id b)
  | .nilm => .nilm
  | .ov i => .ov i
  | .agg l => .agg (subL θ l)
  | .tup l => .tup (subL θ l)
  | .arr a ks n => .arr (a.sub θ) ks (n.sub θ)
def subL (θ : Sub) : List V → List V
  | [] => []
  | x :: xs => x.sub θ :: subL θ xs
end
theorem natOf_sub (h : θ.ok = true) (e : E) : natOf ρ (e.sub θ) = natOf (θ.env ρ) e := by simp only [natOf, E.sub_n h]
theorem addr_sub (h : θ.ok = true) (hl : σ.length = θ.nx) (b c s : Nat) (i : E) : addrOf ρ σ (θ.id b) c s (i.sub θ) = addrOf (θ.env ρ) (θ.sig σ) b c s i := by
  simp only [addrOf, Sub.sig_get h hl, natOf_sub h]
theorem cap_sub (h : θ.ok = true) (hl : σ.length = θ.nx) (m : Cap) : capOf ρ σ (m.sub θ) = capOf (θ.env ρ) (θ.sig σ) m := by
  cases m <;> simp only [Cap.sub, capOf, Sub.sig_get h hl, natOf_sub h]
theorem ms_sub (h : θ.ok = true) (hl : σ.length = θ.nx) (o b : Nat) (len : E) : msOf ρ σ o (θ.id b) (len.sub θ) = msOf (θ.env ρ) (θ.sig σ) o b len := by
  simp only [msOf, Sub.sig_get h hl, E.sub_n h]; rfl
mutual
theorem V.sub_val (h : θ.ok = true) (hl : σ.length = θ.nx) : ∀ x : V, (x.sub θ).val ρ σ = x.val (θ.env ρ) (θ.sig σ)
  | .int .. | .bool .. => by simp only [V.sub, V.val, E.sub_n h]
  | .nilp | .nils | .nilf | .nili | .str .. | .nilm | .ov .. => rfl
  | .arr .. => rfl
  | .mapr b => by simp only [V.sub, V.val, Sub.sig_get h hl]
  | .ptr .. => by simp only [V.sub, V.val, addr_sub h hl]
  | .slice .. => by simp only [V.sub, V.val, addr_sub h hl, natOf_sub h, cap_sub h hl]
  | .bs .. => by simp only [V.sub, V.val, natOf_sub h, E.sub_a h]
  | .ms .. => by simp only [V.sub, V.val, ms_sub h hl]
  | .fn f cs => by simp only [V.sub, V.val, subL_val h hl cs]
  | .iface t v => by simp only [V.sub, V.val, V.sub_val h hl v]
  | .agg l => by simp only [V.sub, V.val, subL_cells h hl l]
  | .tup l => by simp only [V.sub, V.val, subL_val h hl l]
theorem subL_val (h : θ.ok = true) (hl : σ.length = θ.nx) : ∀ l : List V, valL ρ σ (subL θ l) = valL (θ.env ρ) (θ.sig σ) l
  | [] => rfl
  | x :: xs => by simp only [subL, valL, V.sub_val h hl x, subL_val h hl xs]
theorem V.sub_cells (h : θ.ok = true) (hl : σ.length = θ.nx) : ∀ x : V, (x.sub θ).cells ρ σ = x.cells (θ.env ρ) (θ.sig σ)
  | .int .. | .bool .. => by simp only [V.sub, V.cells, E.sub_n h]
  | .nilp | .nils | .nilf | .nili | .str .. | .nilm | .ov .. => rfl
  | .arr .. => by simp only [V.sub, V.cells, natOf_sub h, E.sub_a h]
  | .mapr b => by simp only [V.sub, V.cells, Sub.sig_get h hl]
  | .ptr .. => by simp only [V.sub, V.cells, addr_sub h hl]
  | .slice .. => by simp only [V.sub, V.cells, addr_sub h hl, natOf_sub h, cap_sub h hl]
  | .bs .. => by simp only [V.sub, V.cells, natOf_sub h, E.sub_a h]
  | .ms .. => by simp only [V.sub, V.cells, ms_sub h hl]
  | .fn f cs => by simp only [V.sub, V.cells, subL_val h hl cs]
  | .iface t v => by simp only [V.sub, V.cells, V.sub_val h hl v]
  | .agg l => by simp only [V.sub, V.cells, subL_cells h hl l]
  | .tup l => rfl
theorem subL_cells (h : θ.ok = true) (hl : σ.length = θ.nx) : ∀ l : List V, cellsL ρ σ (subL θ l) = cellsL (θ.env ρ) (θ.sig σ) l
  | [] => rfl
  | x :: xs => by simp only [subL, cellsL, V.sub_cells h hl x, subL_cells h hl xs]
end

/-! ### Finding it -/
abbrev Acc := List (Nat × E) × List (Nat × E) × List (Nat × Nat)
def has {α : Type} (l : List (Nat × α)) (i : Nat) : Bool := l.any (·.1 == i)
def mE (x y : E) (acc : Acc) : Acc := match x with
  | .v i => if has acc.1 i then acc else ((i, y) :: acc.1, acc.2.1, acc.2.2)
  | .av i => if has acc.2.1 i then acc else (acc.1, (i, y) :: acc.2.1, acc.2.2)
  | _ => acc
def mI (b c : Nat) (acc : Acc) : Acc := if has acc.2.2 b then acc else (acc.1, acc.2.1, (b, c) :: acc.2.2)
def mCap (x y : Cap) (acc : Acc) : Acc := match x, y with
  | .e x, .e y => mE x y acc
  | .s i, .s j => mI i j acc
  | _, _ => acc
mutual
def mV : V → V → Acc → Acc
  | .int _ e, .int _ e', acc => mE e e' acc
  | .bool e, .bool e', acc => mE e e' acc
  | .ptr b _ _ i, .ptr b' _ _ i', acc => mE i i' (mI b b' acc)
  | .slice b _ _ i l m, .slice b' _ _ i' l' m', acc => mCap m m' (mE l l' (mE i i' (mI b b' acc)))
  | .bs a n, .bs a' n', acc => mE n n' (mE a a' acc)
  | .ms _ b l, .ms _ b' l', acc => mE l l' (mI b b' acc)
  | .fn _ cs, .fn _ cs', acc => mVL cs cs' acc
  | .iface _ v, .iface _ v', acc => mV v v' acc
  | .mapr b, .mapr b', acc => mI b b' acc
  | .agg l, .agg l', acc => mVL l l' acc
  | .tup l, .tup l', acc => mVL l l' acc
  | .arr a _ n, .arr a' _ n', acc => mE n n' (mE a a' acc)
  | _, _, acc => acc
def mVL : List V → List V → Acc → Acc
  | x :: xs, y :: ys, acc => mVL xs ys (mV x y acc)
  | _, _, acc => acc
end
def mTM : TM → TM → Acc → Acc
  | some x :: xs, some y :: ys, acc => mTM xs ys (mV x y acc)
  | _ :: xs, _ :: ys, acc => mTM xs ys acc
  | _, _, acc => acc
def mH (H : List Chunk) : List Chunk → Acc → Acc
  | [], acc => acc
  | c :: cs, acc => match H.find? (·.id == lk acc.2.2 c.id c.id) with
    | some d => mH H cs (mVL c.segs d.segs (match c.room, d.room with
      | some r, some r' => mI r.1 r'.1 acc
      | _, _ => acc))
    | none => mH H cs acc

/-! ### Trying it -/
def chkRoom (θ : Sub) : Option (Nat × Nat) → Option (Nat × Nat) → Bool
  | none, _ => true
  | some r, some r' => θ.id r.1 == r'.1 && r.2 == r'.2
  | _, _ => false
def chkC (θ : Sub) (c d : Chunk) : Bool := d.id == θ.id c.id && d.own == c.own && d.elem == c.elem && (d.full || !c.full) && (d.fresh || !c.fresh) && chkRoom θ c.room d.room && sameL (subL θ c.segs) d.segs
def nodupB : List Nat → Bool
  | [] => true
  | x :: xs => !xs.contains x && nodupB xs
theorem nodupB_ok : ∀ {l : List Nat}, nodupB l = true → l.Nodup
  | [], _ => List.nodup_nil
  | x :: xs, h => by
    simp only [nodupB, Bool.and_eq_true, Bool.not_eq_true', List.contains_eq_mem, decide_eq_false_iff_not] at h
    exact List.nodup_cons.2 ⟨h.1, nodupB_ok h.2⟩
def chkS (θ : Sub) (s0 s : S) : Bool := θ.ok && θ.n0 == s0.nx && θ.nx == s.nx && nodupB (s0.H.map (·.id)) && nodupB (s0.H.map fun c => θ.id c.id)
  && s0.H.all (fun c => s.H.any fun d => chkC θ c d) && s.H.all fun d => !d.own || d.fresh || s0.H.any fun c => θ.id c.id == d.id
def chkTM (θ : Sub) : TM → TM → Bool
  | [], [] => true
  | none :: xs, _ :: ys => chkTM θ xs ys
  | some x :: xs, some y :: ys => (x.sub θ).same y && chkTM θ xs ys
  | _, _ => false

theorem nodup_map_inj {α : Type} {f : α → Nat} : ∀ {l : List α}, (l.map f).Nodup → ∀ {x y : α}, x ∈ l → y ∈ l → f x = f y → x = y
  | [], _, _, _, h, _, _ => nomatch h
  | z :: l, hn, x, y, hx, hy, he => by
    simp only [List.map_cons, List.nodup_cons, List.mem_map, not_exists, not_and] at hn
    rcases List.mem_cons.1 hx with rfl | hx' <;> rcases List.mem_cons.1 hy with rfl | hy'
    · rfl
    · exact absurd he.symm (hn.1 y hy')
    · exact absurd he (hn.1 x hx')
    · exact nodup_map_inj hn.2 hx' hy' he

theorem Gam.recast {W0 : World} {s s0 : S} {w : World} (g : Gam ρ W0 σ s w) (h : chkS θ s0 s = true) (hp : PC (θ.env ρ) s0.pc) : Gam (θ.env ρ) W0 (θ.sig σ) s0 w := by
  simp only [chkS, Bool.and_eq_true, beq_iff_eq, List.all_eq_true] at h
  obtain ⟨⟨⟨⟨⟨⟨hok, hn0⟩, hnx⟩, hnd0⟩, hnd⟩, hall⟩, hcov⟩ := h
  have hl : σ.length = θ.nx := by rw [g.len, hnx]
  have hb : ∀ b, blk (θ.sig σ) b = blk σ (θ.id b) := fun b => by simp only [blk, Sub.sig_get hok hl]
  have hd : ∀ c ∈ s0.H, ∃ d ∈ s.H, chkC θ c d = true := fun c hc => by simpa [List.any_eq_true] using hall c hc
  refine ⟨hp, by simp [Sub.sig, hn0], nodupB_ok hnd0, ?_, ?_, g.size, g.tape, g.os, g.out, ?_⟩
  · intro c hc
    obtain ⟨d, hd, hck⟩ := hd c hc
    simp only [chkC, Bool.and_eq_true, beq_iff_eq, Bool.or_eq_true, Bool.not_eq_true'] at hck
    obtain ⟨⟨⟨⟨⟨⟨h1, h2⟩, h3⟩, h4⟩, h5⟩, h6⟩, h7⟩ := hck
    obtain ⟨k, o, cs, e1, e2, e3, e4, e5⟩ := g.ch d hd
    refine ⟨k, o, cs, by rw [Sub.sig_get hok hl, ← h1]; exact e1, by rw [← subL_cells hok hl, sameL_eq _ _ h7]; exact e2, e3, ?_, ?_⟩
    · intro hf
      rcases h5 with h5 | h5
      · exact e4 h5
      · rw [hf] at h5; cases h5
    · rw [← h2, ← h3]
      split at e5
      · rename_i ho
        rw [if_pos ho]
        obtain ⟨f1, tail, f2, f3, f4⟩ := e5
        refine ⟨f1, tail, f2, ?_, ?_⟩
        · intro hf
          rcases h4 with h4 | h4
          · exact f3 h4
          · rw [hf] at h4; cases h4
        · intro j st hj
          rw [hj] at h6
          cases hr : d.room with
          | none => rw [hr] at h6; simp [chkRoom] at h6
          | some r =>
            rw [hr] at h6
            simp only [chkRoom, Bool.and_eq_true, beq_iff_eq] at h6
            obtain ⟨m, hm1, hm2⟩ := f4 r.1 r.2 hr
            exact ⟨m, by rw [Sub.sig_get hok hl, h6.1]; exact hm1, by rw [h6.2]; exact hm2⟩
      · rename_i ho
        rw [if_neg ho]
        exact e5
  · intro c hc d hd' ho hne
    obtain ⟨c', hc', hck⟩ := hd c hc
    obtain ⟨d', hd'', hdk⟩ := hd d hd'
    simp only [chkC, Bool.and_eq_true, beq_iff_eq] at hck hdk
    rw [hb, hb, ← hck.1.1.1.1.1.1, ← hdk.1.1.1.1.1.1]
    refine g.sep c' hc' d' hd'' (by rw [hck.1.1.1.1.1.2]; exact ho) ?_
    rw [hck.1.1.1.1.1.1, hdk.1.1.1.1.1.1]
    intro he
    exact hne (by rw [nodup_map_inj (nodupB_ok hnd) hc hd' he])
  · intro k hk hnot
    refine g.kept k hk fun d hd' ho => ?_
    have := hcov d hd'
    simp only [Bool.or_eq_true, Bool.not_eq_true', List.any_eq_true, beq_iff_eq] at this
    rcases this with (h1 | h1) | ⟨c, hc, h1⟩
    · rw [ho] at h1; cases h1
    · obtain ⟨k', o, cs, e1, e2, e3, e4, _⟩ := g.ch d hd'
      have := e4 h1
      simp only [blk, e1, Option.map_some, ne_eq, Option.some.injEq]
      omega
    · obtain ⟨d2, hd2, hck⟩ := hd c hc
      simp only [chkC, Bool.and_eq_true, beq_iff_eq] at hck
      have he : d2 = d := ids_unique g.ids hd2 hd' (by rw [hck.1.1.1.1.1.1, h1])
      subst he
      have := hnot c hc (by rw [← hck.1.1.1.1.1.2]; exact ho)
      rw [hb, h1] at this
      exact this

theorem FR.recast (hok : θ.ok = true) (hl : σ.length = θ.nx) : ∀ {tm0 tm : TM} {l : List Value}, chkTM θ tm0 tm = true → (∀ (i : Nat) (v : V), tm[i]? = some (some v) → v.val ρ σ = l[i]?) →
    tm0.length = tm.length ∧ ∀ (i : Nat) (v : V), tm0[i]? = some (some v) → v.val (θ.env ρ) (θ.sig σ) = l[i]?
  | [], [], l, _, _ => by simp
  | x :: xs, [], l, h, _ => by cases x <;> simp [chkTM] at h
  | [], y :: ys, l, h, _ => by simp [chkTM] at h
  | x :: xs, y :: ys, l, h, hf => by
    have h1 : chkTM θ xs ys = true := by
      cases x with
      | none => simpa [chkTM] using h
      | some x => cases y <;> simp [chkTM] at h; exact h.2
    have ih := FR.recast hok hl (l := l.drop 1) h1 (fun i v hi => by
      rw [hf (i + 1) v (by simpa using hi)]
      simp [List.getElem?_drop, Nat.add_comm])
    refine ⟨by simp [ih.1], fun i v hi => ?_⟩
    cases i with
    | zero =>
      simp only [List.getElem?_cons_zero, Option.some.injEq] at hi
      subst hi
      cases y with
      | none => simp [chkTM] at h
      | some y =>
        simp only [chkTM, Bool.and_eq_true] at h
        rw [← V.sub_val hok hl, V.same_eq _ _ h.1]
        exact hf 0 y (by simp)
    | succ i =>
      rw [ih.2 i v (by simpa using hi)]
      simp [List.getElem?_drop, Nat.add_comm]
end

/-- A state is the template's, with these for its variables. -/
def mt (tm0 : TM) (s0 : S) (tm : TM) (s : S) : Option Sub :=
  let acc := mH s.H s0.H (mTM tm0 tm ([], [], []))
  let θ : Sub := ⟨acc.1, acc.2.1, acc.2.2, s0.nx, s.nx⟩
  if (chkS θ s0 s && chkTM θ tm0 tm) = true then some θ else none
theorem mt_ok {ρ : Env} {W0 : World} {σ : Sig} {tm0 tm : TM} {s0 s : S} {θ : Sub} {w : World} {a : Act} (h : mt tm0 s0 tm s = some θ) (g : Gam ρ W0 σ s w) (hf : FR ρ σ tm a) (hp : PC (θ.env ρ) s0.pc) :
    Gam (θ.env ρ) W0 (θ.sig σ) s0 w ∧ FR (θ.env ρ) (θ.sig σ) tm0 a := by
  simp only [mt] at h
  split at h
  · rename_i hc
    simp only [Option.some.injEq] at h
    rw [h] at hc
    rw [Bool.and_eq_true] at hc
    have hc1 := hc.1
    refine ⟨g.recast hc1 hp, ?_⟩
    simp only [chkS, Bool.and_eq_true, beq_iff_eq] at hc1
    have h2 := FR.recast hc1.1.1.1.1.1.1 (by rw [g.len, hc1.1.1.1.1.2]) hc.2 (l := a.tmps.toList) (fun i v hi => by rw [hf.2 i v hi]; simp)
    exact ⟨by rw [h2.1, hf.1], fun i v hi => by rw [h2.2 i v hi]; simp⟩
  · cases h
end Go.SX
