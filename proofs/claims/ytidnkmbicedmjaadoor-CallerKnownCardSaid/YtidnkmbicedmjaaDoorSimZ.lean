/- From a run of the abstract machine to the real call. -/
import Derived.Test.YtidnkmbicedmjaaDoorSimP
namespace Go.RS
open Go Go.RowKit

section
variable {P : Program}

/-- What a call that is followed gives the kit. -/
theorem FnSim.calls {lo n0 : Nat} {f : Nat} {A : AFn} (hlow : lowFn P f = some A) {args : List Value} {h h1 : AH} {v : Value} (hs : FnSim P lo n0 (.func (.func f) #[] #[]) args h v h1)
    {β : Bij} {w : World} {args' : Array Value} (hargs : LRel β args args'.toList) (R : HRel P lo n0 β h w) {K : Value → World → Prop}
    (hK : ∀ β1 w1 v1', VRel β1 v v1' → HRel P lo n0 β1 h1 w1 → Ext lo β h w β1 h1 w1 → K v1' w1) : CallsIn Fence.wide 0 P f args' w (retK K) := by
  obtain ⟨fn, c, hfn, hbody, _, _, _, hname⟩ := low_fn hlow
  obtain ⟨d, hd, hk⟩ := hs β w (.func (.func f) #[] #[]) args' (.func (.func f) rfl (fun i v v' h => by simp at h) rfl (fun i v v' h => by simp at h)) hargs R
  have hd0 : (⟨.fn (.func f) #[], #[] ++ args'⟩ : Deferred) = d := by
    have : (Deferred.ofValue (.func (.func f) #[] #[]) args').run P w = .ok ⟨.fn (.func f) #[], #[] ++ args'⟩ w := rfl
    rw [this] at hd
    exact (Result.ok.inj hd).1
  subst hd0
  have hname' : fn.name ≠ "runtime.NumGoroutine" := by simpa using hname
  have hrun : (invoke (.fn (.func f) #[]) (#[] ++ args')).run P w = .ok (.enter f args') w := by
    simp only [invoke, callFunc]
    simp [hfn, hname', hbody]
  rcases hk K hK with ⟨g, as, hi, hc⟩ | ⟨⟨l, hl⟩, _⟩
  · rw [hrun] at hi
    have := (Result.ok.inj hi).1
    simp only [Next.enter.injEq] at this
    obtain ⟨rfl, rfl⟩ := this
    exact hc
  · cases hl

/-- **THE END**: a run of the abstract machine from a memory of which nothing may be written is the real call: it answers so, and all old memory is as it was. -/
theorem close {G : Env} {f : Nat} {A : AFn} {args : List Value} {h0 h1 : AH} {v : Value} (hG : ∀ f A, G.fn f = some A → lowFn P f = some A) (hmix : P.follows .mixedOrders = true) (hlow : lowFn P f = some A)
    {β : Bij} {w : World} {args' : Array Value} (hO : ∀ f args v h, G.pure f args v h → FnSim P h0.size w.heap.size (.func (.func f) #[] #[]) args h v h)
    (hB : B G h0.size (.fn (.func (.func f) #[] #[]) args h0) (.v v h1)) (hargs : LRel β args args'.toList) (R : HRel P h0.size w.heap.size β h0 w) :
    Calls P f args' w fun e w' => ∃ β1 v', e = .returned v' ∧ VRel β1 v v' ∧ Below w.heap.size w w' := by
  rw [← callsIn_wide (n := 0)]
  have hs : FnSim P h0.size w.heap.size (.func (.func f) #[] #[]) args h0 v h1 := (sim hG hO hmix hB).1
  refine (hs.calls hlow hargs R (K := fun v' w' => ∃ β1, VRel β1 v v' ∧ Below w.heap.size w w') fun β1 w1 v1' hv R1 E1 => ⟨β1, hv, E1.env.1, E1.env.2.1, E1.env.2.2, E1.ws, fun k hk => E1.keep k hk fun b d hl hb => ?_⟩).mono fun e w' he => ?_
  · have := (R.dom b k d hb).1; omega
  · cases e with
    | returned v' => obtain ⟨β1, h2, h3⟩ := he; exact ⟨β1, v', rfl, h2, h3⟩
    | panicked c => exact he.elim
    | outgrown => exact he.elim

/-- A base: blocks of closed values that nobody writes. -/
def Closed (hc : AH) : Prop := ∀ b : Nat, b < hc.size → ∃ c, hc[b]? = some (.cells c) ∧ ∀ v ∈ c, closedS v = true
theorem closedS_of {β γ : Bij} {v v' : Value} (hc : closedS v = true) (h : VRel β v v') : VRel γ v v' := by
  cases v with
  | bool b => cases h; exact .bool b
  | int k n => cases h; exact .int k n
  | string s => cases h; exact .string s
  | pointer a => cases a <;> simp [closedS] at hc; cases h; exact .ptr0
  | slice a n c => cases a <;> simp [closedS] at hc; cases h; exact .sl0 n c
  | map r => cases r <;> simp [closedS] at hc; cases h; exact .map0
  | nilFunc => cases h; exact .nilFunc
  | nilIface => cases h; exact .nilIface
  | func f x c =>
    cases f <;> simp [closedS] at hc
    obtain ⟨rfl, rfl⟩ := hc
    cases h with
    | @func _ f' _ x' _ c' hf s1 h1 s2 h2 =>
      cases hf
      have e1 : x' = #[] := Array.eq_empty_of_size_eq_zero (by rw [← s1]; rfl)
      have e2 : c' = #[] := Array.eq_empty_of_size_eq_zero (by rw [← s2]; rfl)
      subst e1; subst e2
      exact .func (.func _) rfl (fun i v v' h => by simp at h) rfl (fun i v v' h => by simp at h)
  | _ => simp [closedS] at hc

/-- **A call of a function of the base alone that answers a closed value**: run once from the base, it is followed from everywhere. -/
theorem pure_sim {G : Env} {f : Nat} {args : List Value} {hc h1 : AH} {v : Value} (hG : ∀ f A, G.fn f = some A → lowFn P f = some A) (hno : ∀ f args v h, ¬ G.pure f args v h) (hmix : P.follows .mixedOrders = true)
    (hB : B G hc.size (.fn (.func (.func f) #[] #[]) args hc) (.v v h1)) (hcl : Closed hc) (hgl : P.globals.size ≤ hc.size) (hv : closedS v = true) (hargs : ∀ x ∈ args, closedS x = true)
    {lo n0 : Nat} {h : AH} (hb : ∀ b, b < hc.size → h[b]? = hc[b]?) : FnSim P lo n0 (.func (.func f) #[] #[]) args h v h := by
  intro β w v' args' hv' hargs' R
  have hL : LRel (cutB β hc.size) args args'.toList := ⟨hargs'.1, fun i x x' a b => closedS_of (hargs x (List.mem_of_getElem? a)) (hargs'.2 i x x' a b)⟩
  have hs : FnSim P hc.size w.heap.size (.func (.func f) #[] #[]) args hc v h1 := (sim hG (fun f args v h hp => absurd hp (hno f args v h)) hmix hB).1
  have R0 : HRel P hc.size w.heap.size (cutB β hc.size) hc w := by
    refine ⟨fun b r d hx => ⟨(cutB_some hx).1, (R.dom b r d (cutB_some hx).2).2⟩, fun b r d o hx ho => ?_, fun b r d hl hx => ?_, fun b r d hl hx => (R.dom b r d (cutB_some hx).2).2, fun b b' r d d' hl hl' hx hx' _ _ => ?_, fun g hg => ?_, Nat.le_refl _, Nat.le_refl _⟩
    · obtain ⟨hlt, hx⟩ := cutB_some hx
      obtain ⟨c, hcc, hcv⟩ := hcl b hlt
      rw [hcc] at ho; cases ho
      obtain ⟨c', e, fz, h2, h3, h4, h5⟩ := R.obj b r d (.cells c) hx (by rw [hb b hlt]; exact hcc)
      refine ⟨c', e, fz, h2, fun hle => by omega, h4, fun i u hu => ?_⟩
      obtain ⟨u', h6, h7⟩ := h5 i u hu
      exact ⟨u', h6, closedS_of (hcv u (List.mem_of_getElem? hu)) h7⟩
    · have := (cutB_some hx).1; omega
    · have := (cutB_some hx).1; omega
    · obtain ⟨z, hz⟩ := R.glob g hg
      exact ⟨z, by unfold cutB; rw [if_pos (by omega)]; exact hz⟩
  cases hv' with
  | @func _ f' _ x' _ c' hf s1 k1 s2 k2 =>
    cases hf
    have e1 : x' = #[] := Array.eq_empty_of_size_eq_zero (by rw [← s1]; rfl)
    have e2 : c' = #[] := Array.eq_empty_of_size_eq_zero (by rw [← s2]; rfl)
    subst e1; subst e2
    obtain ⟨d, hd, hk⟩ := hs (cutB β hc.size) w (.func (.func f) #[] #[]) args' (.func (.func f) rfl (fun i v v' h => by simp at h) rfl (fun i v v' h => by simp at h)) hL R0
    refine ⟨d, hd, fun K hK => ?_⟩
    refine hk K fun β1 w1 v1' hvr R1 E1 => ?_
    have keep : ∀ r, r < w.heap.size → w1.heap[r]? = w.heap[r]? := fun r hr => E1.keep r hr fun b d hl hx => by have := (cutB_some hx).1; omega
    refine hK β w1 v1' (closedS_of hv hvr) ⟨fun b r d hx => ?_, fun b r d o hx ho => ?_, R.img, R.low, R.inj, R.glob, R.los, Nat.le_trans R.n0s E1.ws⟩ ⟨fun _ _ => rfl, Nat.le_refl _, E1.ws, fun _ _ _ h => h, fun r hr _ => keep r hr, fun b r d hb2 hx => ?_, E1.lps, E1.env⟩
    · have := R.dom b r d hx
      exact ⟨this.1, Nat.lt_of_lt_of_le this.2 E1.ws⟩
    · rw [keep r (R.dom b r d hx).2]; exact R.obj b r d o hx ho
    · have := (R.dom b r d hx).1; omega
end
end Go.RS
