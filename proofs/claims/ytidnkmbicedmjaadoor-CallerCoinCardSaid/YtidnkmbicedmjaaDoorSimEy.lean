/- The runner, and that it is right (3). -/
import Derived.Test.YtidnkmbicedmjaaDoorSimEx
set_option linter.all false
namespace Go.RS
open Go

section
variable {G : Env} {lo : Nat} {ev : ECfg → Option ERes}
theorem code_sound (hs : Sound G lo ev) {c : ACode} {fr : FF} {h : EH} {r : ERes} (he : codeK lo ev c fr h = some r) : B G lo (.code c fr.get h.ah) r.a ∧ EStep h r.h := by
  cases c with
  | skip => cases he; exact ⟨.skip, .refl _⟩
  | region d ops =>
    have he : c_region lo ev d ops fr h = some r := he
    unfold c_region at he
    obtain ⟨fr1, h1, hr, he⟩ := ob2_some he
    cases he
    cases d with
    | false =>
      obtain ⟨k1, k2⟩ := runOps_sound hs hr
      exact ⟨.region k1, k2⟩
    | true =>
      obtain ⟨k1, k2⟩ := runOpsD_sound hs hr
      exact ⟨.regionD k1, k2⟩
  | seq a b =>
    obtain ⟨e, fr1, h1, ha, he⟩ := resK_some he
    obtain ⟨k1, k2⟩ := hs _ _ ha
    cases hn : e.isN with
    | true =>
      rw [hn] at he
      obtain rfl := isN_iff hn
      obtain ⟨k3, k4⟩ := hs _ _ he
      exact ⟨.seq k1 k3, k2.trans k4⟩
    | false =>
      rw [hn] at he
      cases he
      exact ⟨.seq_out k1 (isN_not (by rw [hn]; simp)), k2⟩
  | cond c a b =>
    have he : c_cond ev c a b fr h = some r := he
    unfold c_cond at he
    split at he
    · rename_i t hc
      cases t with
      | true =>
        obtain ⟨k1, k2⟩ := hs (.code a fr h) r he
        exact ⟨.cond_t hc k1, k2⟩
      | false =>
        obtain ⟨k1, k2⟩ := hs (.code b fr h) r he
        exact ⟨.cond_f hc k1, k2⟩
    · cases he
  | block id c =>
    obtain ⟨e, fr1, h1, ha, he⟩ := resK_some he
    cases he
    obtain ⟨k1, k2⟩ := hs _ _ ha
    exact ⟨.block k1, k2⟩
  | loop c =>
    obtain ⟨e, fr1, h1, ha, he⟩ := resK_some he
    obtain ⟨k1, k2⟩ := hs _ _ ha
    cases hn : e.isN with
    | true =>
      rw [hn] at he
      obtain rfl := isN_iff hn
      obtain ⟨k3, k4⟩ := hs _ _ he
      exact ⟨.loop k1 k3, k2.trans k4⟩
    | false =>
      rw [hn] at he
      cases he
      exact ⟨.loop_out k1 (isN_not (by rw [hn]; simp)), k2⟩
  | exit id => cases he; exact ⟨.exit, .refl _⟩
  | ret => cases he; exact ⟨.ret, .refl _⟩
  | bad => cases he
  | scope c =>
    obtain ⟨k1, k2⟩ := hs (.code c fr h) r he
    exact ⟨.scope k1, k2⟩
  | rangeFunc f ps assign body =>
    have he : c_range ev f ps assign body fr h = some r := he
    unfold c_range at he
    split at he
    · rename_i g first cap hf
      obtain ⟨h1, hp, he⟩ := ob_some he
      obtain ⟨v, h2, hc, he⟩ := valK_some he
      obtain ⟨L, hl, he⟩ := loopK_some he
      cases hb : busyB L.state with
      | true => rw [hb] at he; cases he
      | false =>
        rw [hb] at he
        obtain ⟨h3, hst, he⟩ := ob_some he
        cases he
        obtain ⟨k1, k2⟩ := hs _ _ hc
        have e1 := (EH.push_ah hp).1
        have e2 := (EH.set_ah hst).1
        have k1 : B G lo (.fn (.func (.func g) first cap) [.func (.yield h.n) #[] #[]] h1.ah) (.v v h2.ah) := k1
        refine ⟨?_, ((EStep.push hp).trans k2).trans (.set hst)⟩
        have := B.rangeFunc (ps := ps) (assign := assign) (body := body) (fr := fr.get) (h := h.ah) hf (by rw [EH.size_ah, ← e1]; exact k1) (by rw [EH.size_ah, EH.get_ah]; exact hl) (busy_not hb)
        rw [EH.size_ah, ← e2] at this
        exact this
    · cases he
theorem fn_sound (hs : Sound G lo ev) {v : Value} {args : List Value} {h : EH} {r : ERes} (he : fnK G.fn lo ev v args h = some r) : B G lo (.fn v args h.ah) r.a ∧ EStep h r.h := by
  unfold fnK at he
  split at he
  · rename_i f first cap
    rw [forceL_eq] at he
    obtain ⟨F, hG, he⟩ := ob_some he
    obtain ⟨hle, he⟩ := cond_some he
    obtain ⟨e, fr1, h1, hb, he⟩ := resK_some he
    obtain ⟨hn, he⟩ := cond_some he
    obtain ⟨v, hv, he⟩ := ob_some he
    cases he
    obtain ⟨k1, k2⟩ := hs _ _ hb
    rw [resultsE_eq] at hv
    exact ⟨.fn_func hG k1 (by simpa using hle) (isNR_iff hn) hv, k2⟩
  · rename_i l first cap
    obtain ⟨hc, he2⟩ := cond_some he
    simp only [Bool.and_eq_true, Array.isEmpty_iff] at hc
    obtain ⟨rfl, rfl⟩ := hc
    clear he
    unfold f_yield at he2
    obtain ⟨hlo, he⟩ := cond_some he2
    obtain ⟨L, hl, he⟩ := loopK_some he
    obtain ⟨hlen, he⟩ := cond_some he
    obtain ⟨e1, fr1, h1, ha, he⟩ := resK_some he
    obtain ⟨hn, he⟩ := cond_some he
    obtain rfl := isN_iff hn
    obtain ⟨L1, hl1, he⟩ := loopK_some he
    obtain ⟨hr, he⟩ := cond_some he
    obtain ⟨h1', hst1, he⟩ := ob_some he
    obtain ⟨e, fr2, h2, hb, he⟩ := resK_some he
    obtain ⟨L2, hl2, he⟩ := loopK_some he
    obtain ⟨h3, hst2, he⟩ := ob_some he
    cases he
    obtain ⟨k1, k2⟩ := hs _ _ ha
    obtain ⟨k3, k4⟩ := hs _ _ hb
    have e1 := (EH.set_ah hst1).1
    have e2 := (EH.set_ah hst2).1
    have k3 : B G lo (.code L.body fr1.get h1'.ah) (.fr e fr2.get h2.ah) := k3
    rw [e1] at k3
    refine ⟨?_, ((k2.trans (.set hst1)).trans k4).trans (.set hst2)⟩
    have := B.fn_yield (args := args) (by simpa using hlo) (by rw [EH.get_ah]; exact hl) (Nat.eq_of_beq_eq_true hlen) k1 (by rw [EH.get_ah]; exact hl1) (rdy_iff hr) k3 (by rw [EH.get_ah]; exact hl2)
    rw [← e2] at this
    exact this
  · cases he
theorem ev_sound (n : Nat) : Sound G lo (evN G.fn lo n) := by
  induction n with
  | zero => intro c r he; cases he
  | succ n ih =>
    intro c r he
    cases c with
    | code c fr h => exact code_sound ih he
    | fn v args h => exact fn_sound ih he
end
end Go.RS

