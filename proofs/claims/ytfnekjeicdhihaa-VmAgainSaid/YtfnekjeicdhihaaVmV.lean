/- SameRan as a contract of the executor. -/
import Derived.Test.YtfnekjeicdhihaaVmU
namespace Go.Proofs.Ytfnekjeicdhihaa
open Go.SX

def k7 (vs : List V) (s : S) : Option (List COut) := match mt [some (ranV (srV 0 2)), some (ranV (srV 1 3))] sS0 (vs.map some) ⟨s.pc, s.nx, (s.H.filter fun c => (refsL vs).contains c.id).map fun c => { c with fresh := false, own := c.own && false }⟩ with
  | some θ => if θ.iv.all (fun p => decide (p.2 = .v p.1)) = true ∧ θ.av.all (fun p => decide (p.2 = .av p.1)) = true ∧ known s.pc (.bi .le (.c 0) (.v 69)) = true ∧ vs.length = 2 then some [.ret (.bool (.c 1)) s] else none
  | none => none
theorem k7_ok {ρ : Env} (hbig : ρ.iv 69 ≤ 1000000) (W0 : World) (vs : List V) (s : S) (l : List COut)
    (h : k7 vs s = some l) (σ : Sig) (w : World) (xs : List Value) (g : Gam ρ W0 σ s w) (hv : valL ρ σ vs = some xs) : Calls Try.prog 7 xs.toArray w (SPC ρ W0 σ l) := by
  unfold k7 at h
  split at h
  case h_2 => cases h
  rename_i θ hθ
  split at h
  case isFalse => cases h
  rename_i hc
  obtain ⟨hc1, hc2, hk, hlen⟩ := hc
  cases h
  match vs, hlen with
  | [u, v], _ =>
  simp only [valL] at hv
  split at hv
  case h_2 => cases hv
  rename_i x0 r0 hx0 hr0
  cases hv
  split at hr0
  case h_2 => cases hr0
  rename_i x1 r1 hx1 hr1
  cases hr0
  cases hr1
  have gs := subV g (fun c => (refsL [u, v]).contains c.id) (fun _ => false)
  have hfr : FR ρ σ (([u, v] : List V).map some) { tmps := #[x0, x1], defers := [] } := by
    refine ⟨rfl, fun i q hi => ?_⟩
    rcases i with _ | _ | i
    · simp at hi; subst hi; exact hx0
    · simp at hi; subst hi; exact hx1
    · simp at hi
  have henv : θ.env ρ = ρ := plain_env (ρ := ρ) (iv := θ.iv) (av := θ.av) (by simp only [plain, Bool.and_eq_true]; exact ⟨hc1, hc2⟩)
  obtain ⟨g1, f1⟩ := mt_ok hθ gs hfr (fun e he => by
    simp only [sS0, List.mem_cons, List.not_mem_nil, or_false] at he
    subst he
    rw [henv]
    exact known_n g.pc hk)
  rw [henv] at g1 f1
  have hx : (ranV (srV 0 2)).val ρ (θ.sig σ) = some x0 := f1.2 0 _ rfl
  have hy : (ranV (srV 1 3)).val ρ (θ.sig σ) = some x1 := f1.2 1 _ rfl
  refine (sr_ok hx hy g1 hbig).mono fun e w' hr => ?_
  obtain ⟨rfl, hold⟩ := hr
  exact ⟨.bool (.c 1), s, [], List.mem_singleton.2 rfl, by rw [List.append_nil]; exact g.step hold, rfl⟩
end Go.Proofs.Ytfnekjeicdhihaa
