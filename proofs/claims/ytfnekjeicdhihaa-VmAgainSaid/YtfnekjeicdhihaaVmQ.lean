/- code.Check and 'goes' as contracts of the executor. -/
import Derived.Test.YtfnekjeicdhihaaVmO
namespace Go.Proofs.Ytfnekjeicdhihaa
open Go.SX

def k15 (vs : List V) (s : S) : Option (List COut) := match vs with
  | [.agg [.int .i64 (.v 0), .ms 0 a (.v 1)]] => match mt [some (.agg [.int .i64 (.v 0), .ms 0 0 (.v 1)])] sK0 [some (.agg [.int .i64 (.v 0), .ms 0 a (.v 1)])] ⟨s.pc, s.nx, (s.H.filter fun c => c.id == a).map fun c => { c with fresh := false, own := c.own && false }⟩ with
    | some θ => if θ.iv.all (fun p => decide (p.2 = .v p.1)) = true ∧ θ.av.all (fun p => decide (p.2 = .av p.1)) = true then some [.ret (.int .i64 (.v 50)) s] else none
    | none => none
  | _ => none
theorem k15_ok {ρ : Env} (hbig : ρ.iv 1 ≤ 1000000) (hC : ∀ n, ChkR ρ n → ρ.iv 50 = n) (W0 : World) (vs : List V) (s : S) (l : List COut)
    (h : k15 vs s = some l) (σ : Sig) (w : World) (xs : List Value) (g : Gam ρ W0 σ s w) (hv : valL ρ σ vs = some xs) : Calls Try.prog 15 xs.toArray w (SPC ρ W0 σ l) := by
  unfold k15 at h
  split at h
  case h_2 => cases h
  rename_i a
  split at h
  case h_2 => cases h
  rename_i θ hθ
  split at h
  case isFalse => cases h
  rename_i hc
  cases h
  simp only [valL] at hv
  split at hv
  case h_2 => cases hv
  rename_i x0 r0 hx0 hr0
  cases hv
  simp only [Option.some.injEq] at hr0
  subst hr0
  have gs := subV g (fun c => c.id == a) (fun _ => false)
  have hfr : FR ρ σ [some (.agg [.int .i64 (.v 0), .ms 0 a (.v 1)])] { tmps := #[x0], defers := [] } := by
    refine ⟨rfl, fun i v hi => ?_⟩
    rcases i with _ | i
    · simp only [List.getElem?_cons_zero, Option.some.injEq] at hi; subst hi; exact hx0
    · simp at hi
  obtain ⟨g1, f1⟩ := mt_ok hθ gs hfr (fun e he => nomatch he)
  have henv : θ.env ρ = ρ := by
    have := plain_env (ρ := ρ) (iv := θ.iv) (av := θ.av) (by simp only [plain, Bool.and_eq_true]; exact hc)
    exact this
  rw [henv] at g1 f1
  have hx : (V.agg [.int .i64 (.v 0), .ms 0 0 (.v 1)]).val ρ (θ.sig σ) = some x0 := f1.2 0 _ rfl
  refine (chk_ok hx g1 hbig).mono fun e w' hr => ?_
  obtain ⟨⟨n, rfl, hn⟩, hold⟩ := hr
  refine ⟨.int .i64 (.v 50), s, [], List.mem_singleton.2 rfl, by rw [List.append_nil]; exact g.step hold, ?_⟩
  simp only [V.val, E.n_v, hC n hn]

def kRun : CallF := fun f vs s => if f = 15 then k15 vs s else if f = 17 then k17 vs s else none
theorem kRun_ok {ρ : Env} (hbig : ρ.iv 1 ≤ 1000000) (h2 : 0 ≤ ρ.iv 2) (h3 : 0 ≤ ρ.iv 3) (h47 : 0 ≤ ρ.iv 47) (hrow : ∀ r : Nat, (r : Int) < ρ.iv 47 → ρ.av 5 (ρ.iv 3 + r) 0 = ρ.av 7 r 0) (hC : ∀ n, ChkR ρ n → ρ.iv 50 = n) (hT : ρ.iv 50 = 0 → Told ρ) :
    CallOK ρ Try.prog kRun := by
  intro W0 f vs s l h _ σ w xs g hv
  unfold kRun at h
  split at h
  · rename_i hf
    subst hf
    refine ⟨?_, k15_ok hbig hC W0 vs s l h σ w xs g hv⟩
    have hn : ¬ Try.f15.name = "runtime.NumGoroutine" := by decide
    simp [callFunc, Try.func15, hn, chk_code]
  · split at h
    · rename_i hf
      subst hf
      refine ⟨?_, k17_ok h2 h3 h47 hrow hT W0 vs s l h σ w xs g hv⟩
      have hn : ¬ Try.f17.name = "runtime.NumGoroutine" := by decide
      simp [callFunc, Try.func17, hn, goes_code]
    · cases h
end Go.Proofs.Ytfnekjeicdhihaa
