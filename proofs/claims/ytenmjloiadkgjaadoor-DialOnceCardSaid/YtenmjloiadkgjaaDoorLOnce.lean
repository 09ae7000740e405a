/- Walks: the law DialOnce. -/
import Derived.Test.YtenmjloiadkgjaaDoorDla
set_option linter.all false
namespace Go.RS.DC
open Go Go.RS
open Go.RS.Enc (enc dec)
variable {E : VEnv}
set_option maxHeartbeats 3200000 in
set_option maxRecDepth 20000 in
theorem l_Once (hE : E.env.fn = G) (hgl : E.gl 0 = some [f130v, f131v]) (x : TownC) (r : Reading) (n : Int) : VP E 13 [enc x, enc r, .int .i64 n] (.bool true) := by
  have good := goodV_cons (w_fit hE) (goodV_cons (w_ticksOf hE) (goodV_cons (w_Rest hE) (goodV_cons (w_LocalP hE hgl) (goodV_cons (w_TicksP hE hgl) (goodV_cons (w_Find hE) (goodV_cons (w_Climbs hE) (goodV_cons (w_works hE hgl) goodV_nil)))))))
  cases hf : fitR x
  · rcases check_unfit hf with hc | hc
    · have hr : TicksR x.C x.T r = ([], 10) := by unfold TicksR; rw [hc]; rfl
      refine VP.run (A := F13) (good) [] (by rw [hE]; rfl) (by simp [F13]) ?_; unfold F13; simp (implicitDefEqProofs := false) [enc_list, hf, hr]
    · have hr : TicksR x.C x.T r = ([], 12) := by unfold TicksR; rw [hc]; rfl
      refine VP.run (A := F13) (good) [] (by rw [hE]; rfl) (by simp [F13]) ?_; unfold F13; simp (implicitDefEqProofs := false) [enc_list, hf, hr]
  · obtain ⟨ho, hto⟩ := fit_ok hf
    obtain ⟨c, t⟩ := x
    change okC c = true at ho
    change okT c t = true at hto
    have o := okC_ok ho
    have ot := okT_ok hto
    have ab := allR_b o
    have hT : ticksOfR c = (allR c, true) := if_pos ho
    have hck := check_town ho hto
    have r1 := ticks_of hck r
    have f2 := ticks_climb o ot r
    have hln := ot.ln
    have hlen := ticksR_len c t r
    obtain ⟨i1, i2, i3⟩ := all_mod o n
    generalize n % allR c = k at *
    have r2 := local_of hck i2 i3
    have hck0 := check_town ho (okT_plain (c := c) (n := t.Ahead) ot.a1 ot.a2)
    have r3 := ticks_of hck0 r
    have hl0 : (ticksR c ⟨t.Ahead, []⟩ r).length ≤ 1 := ticksR_len c ⟨t.Ahead, []⟩ r
    have hfi := ticks_find o ot r k i2 i3
    have hloc : ∀ (j : Nat) (hj : j < (ticksR c t r).length), LocalR c t (ticksR c t r)[j] = (r, 0) := fun j hj => by
      have := (mem_ticksR o ot r _).1 (List.getElem_mem hj)
      rw [local_of hck this.1 this.2.1, this.2.2]
    have hbq : (((localR c t k).Day == r.Day) && (((localR c t k).Hour == r.Hour) && (((localR c t k).Minute == r.Minute) && ((localR c t k).Second == r.Second)))) = decide (localR c t k = r) := beq_Reading _ _
    have hdf : decide (0 ≤ findR k 0 (ticksR c t r)) = decide (localR c t k = r) := by
      rw [Bool.eq_iff_iff]; simpa using hfi
    generalize ticksR c t r = L at *
    generalize ticksR c ⟨t.Ahead, []⟩ r = L0 at *
    generalize localR c t k = s at *
    generalize decide (s = r) = T at *
    generalize allR c = A at *
    have w1 : IntKind.i64.wrap ((t.Changes.length : Int) + 1) = t.Changes.length + 1 := wrap64 (by omega) (by omega)
    have g1 : ¬ (t.Changes.length : Int) + 1 < L.length := by omega
    have g2 : (L0.length : Int) ≤ 1 := by omega
    refine VP.run (A := F13) (good) [] (by rw [hE]; rfl) (by simp [F13]) ?_; unfold F13; simp (implicitDefEqProofs := false) [enc_list, hf, hT, r1, f2, w1, g1]
    refine VW.loop_to 0 [(2, .int .i64 n), (3, .ptr 0 7 0), (4, .ptr 1 4 0), (7, enc L), (9, .int .i64 A)] [.cells (El.cells (TownC.mk c t)), .cells (El.cells r)] (True) ?_ (fun hp f m hc => ?_)
    · obtain ⟨Inv, hI⟩ : ∃ Inv : Nat → List (Nat × PV) → VM → Prop, ∀ q f m, Inv q f m ↔ (f = [(2, .int .i64 n), (3, .ptr 0 7 0), (4, .ptr 1 4 0), (7, enc L), (9, .int .i64 A), (11, .int .i64 q)] ∧ m = [.cells (El.cells (TownC.mk c t)), .cells (El.cells r)]) := ⟨_, fun _ _ _ => Iff.rfl⟩
      refine VW.loop_cut Inv L.length ?_ ?_ ?_
      · exact ⟨_, _, (hI _ _ _).2 ⟨rfl, rfl⟩, ⟨2, [], by simp [enc_list], by simp, by simp, by simp (implicitDefEqProofs := false) [enc_list], by simp (implicitDefEqProofs := false) [enc_list]⟩⟩
      · intro q f m hq hv
        obtain ⟨rfl, rfl⟩ := (hI _ _ _).1 hv
        have h1 := hloc q hq
        have w2 : IntKind.i64.wrap ((q : Int) + 1) = q + 1 := wrap64 (by omega) (by omega)
        refine VW.run good [] ?_; simp (implicitDefEqProofs := false) [enc_list, hq, get_Int L q hq, h1, w2, spliceV]
        exact ⟨_, _, (hI _ _ _).2 ⟨rfl, rfl⟩, ⟨2, [], by simp [enc_list], by simp, by simp, by simp (implicitDefEqProofs := false) [enc_list], by simp (implicitDefEqProofs := false) [enc_list]⟩⟩
      · intro f m hv
        obtain ⟨rfl, rfl⟩ := (hI _ _ _).1 hv
        refine VW.run good [] ?_; simp (implicitDefEqProofs := false) [enc_list]
        exact ⟨2, [], by simp [enc_list], by simp, by simp, by simp (implicitDefEqProofs := false) [enc_list], by simp (implicitDefEqProofs := false) [enc_list]⟩
    · simp (implicitDefEqProofs := false); refine .ofCut hc (VW.run good [] ?_); simp (implicitDefEqProofs := false) [enc_list, i1, r2, r3, hbq, hdf, g2, spliceV, -Bool.and_eq_true]
end Go.RS.DC

