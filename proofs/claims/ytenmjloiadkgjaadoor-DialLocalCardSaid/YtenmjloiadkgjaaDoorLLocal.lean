/- Walks: the law DialLocal. -/
import Derived.Test.YtenmjloiadkgjaaDoorDla
set_option linter.all false
namespace Go.RS.DC
open Go Go.RS
open Go.RS.Enc (enc dec)
variable {E : VEnv}
set_option maxHeartbeats 3200000 in
set_option maxRecDepth 20000 in
theorem l_Local (hE : E.env.fn = G) (hgl : E.gl 0 = some [f130v, f131v]) (x : TownC) (n : Int) : VP E 12 [enc x, .int .i64 n] (.bool true) := by
  have good := goodV_cons (w_fit hE) (goodV_cons (w_ticksOf hE) (goodV_cons (w_Rest hE) (goodV_cons (w_ReadingP hE hgl) (goodV_cons (w_LocalP hE hgl) (goodV_cons (w_TicksP hE hgl) (goodV_cons (w_Find hE) (goodV_cons (w_Climbs hE) (goodV_cons (w_through hE) (goodV_cons (w_aheadOf hE) (goodV_cons (w_Lies hE) (goodV_cons (w_works hE hgl) goodV_nil)))))))))))
  cases hf : fitR x
  · refine VP.run (A := F12) (good) [] (by rw [hE]; rfl) (by simp [F12]) ?_; unfold F12; simp (implicitDefEqProofs := false) [enc_list, hf]
  · obtain ⟨ho, hto⟩ := fit_ok hf
    obtain ⟨c, t⟩ := x
    change okC c = true at ho
    change okT c t = true at hto
    have o := okC_ok ho
    have ot := okT_ok hto
    have ab := allR_b o
    have h1 := o.h1
    have h2 := o.h2
    have m1 := o.m1
    have m2 := o.m2
    have hT : ticksOfR c = (allR c, true) := if_pos ho
    obtain ⟨i1, i2, i3⟩ := all_mod o n
    generalize n % allR c = k at *
    have r1 := reading_of ho i2 i3
    have hck := check_town ho hto
    have r2 := local_of hck i2 i3
    have hck0 := check_town ho (okT_plain (c := c) (n := 0) (by omega) (by omega))
    have r3 := local_of hck0 i2 i3
    rw [local_zero o i2 i3] at r3
    have r4 := ticks_of hck (localR c t k)
    have f1 : ¬ findR k 0 (ticksR c t (localR c t k)) < 0 := by
      have := (ticks_find o ot (localR c t k) k i2 i3).2 rfl
      omega
    have f2 := ticks_climb o ot (localR c t k)
    obtain ⟨p1, p2, p3⟩ := local_day o ot i2 i3
    have hrp := read_proper o i2 i3
    have hrd : -2000 ≤ (readR c k).Day ∧ (readR c k).Day ≤ 2000 := by
      have hv := (read_valid o i2 i3).1
      have := o.d2
      simp only [validR, Bool.and_eq_true, wi_iff] at hv
      omega
    have t1 := thW_eq o p1 p2 p3
    have t2 := thW_eq o hrp hrd.1 hrd.2
    have t3 : thruR c (localR c t k) = thruR c (readR c k) + aheadL t.Ahead t.Changes k := (thru_of o _ _).1
    have tb := thru_b o i2 i3
    have hab := ot.ab k
    have s0 : (localR c t k).Second = (readR c k).Second := rfl
    rw [t3] at t1
    have w1 : IntKind.i64.wrap (thruR c (readR c k) + aheadL t.Ahead t.Changes k) = thruR c (readR c k) + aheadL t.Ahead t.Changes k := wrap64 (by omega) (by omega)
    have w2 : IntKind.i64.wrap (c.Hours - 1) = c.Hours - 1 := wrap64 (by omega) (by omega)
    have w3 : IntKind.i64.wrap (c.Minutes - 1) = c.Minutes - 1 := wrap64 (by omega) (by omega)
    have sq : ((localR c t k).Second == (readR c k).Second) = true := by rw [s0]; simp
    have sq2 : ((localR c t k).Second = (readR c k).Second) = True := eq_true s0
    clear s0
    simp only [properR, Bool.and_eq_true] at p1
    obtain ⟨q1, q2⟩ := p1
    generalize ticksR c t (localR c t k) = L at *
    generalize localR c t k = s at *
    generalize readR c k = r at *
    generalize thruR c r = X at *
    generalize allR c = A at *
    refine VP.run (A := F12) (good) [] (by rw [hE]; rfl) (by simp [F12]) ?_; unfold F12; simp (implicitDefEqProofs := false) [enc_list, hf, hT, i1, r1, r2, r3, r4, f1, f2, t1, t2, w1, w2, w3, q1, q2, sq, sq2, spliceV]
end Go.RS.DC

