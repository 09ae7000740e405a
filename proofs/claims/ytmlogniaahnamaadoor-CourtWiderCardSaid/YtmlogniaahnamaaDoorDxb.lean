/- Walks: the program (13): a town that is visited: how far it is ahead. -/
import Derived.Test.YtmlogniaahnamaaDoorDxa
set_option linter.all false
namespace Go.RS.DC
open Go Go.RS
open Go.RS.Enc (enc dec)
variable {E : VEnv}
/-- A town with its calendar opened. -/
abbrev V := Cat K Town
def vOf (c : Cal) (t : Town) : V := ⟨kOf c, t⟩
theorem enc_vOf (c : Cal) (t : Town) : enc (vOf c t) = .agg (.int .i64 c.Hours :: .int .i64 c.Minutes :: .int .i64 c.Seconds :: .int .i64 c.Days :: .lst false c.Decrees.length 2 (encL c.Decrees) :: (encL (moreA c).l ++ [.int .i64 t.Ahead, .lst false t.Changes.length 2 (encL t.Changes)])) := rfl
theorem at10 (c : Cal) (x y : PV) : (encL (moreA c).l ++ [x, y])[10]? = some x := by
  rw [List.getElem?_append_right (by simp [(moreA c).h])]; simp [(moreA c).h]
theorem at11 (c : Cal) (x y : PV) : (encL (moreA c).l ++ [x, y])[11]? = some y := by
  rw [List.getElem?_append_right (by simp [(moreA c).h])]; simp [(moreA c).h]
@[simp] theorem und_ints2 (j : Nat) (l : List Int) (x y : PV) : (∀ v, v ∈ encL l ∨ v = x ∨ v = y → PV.und j v = true) ↔ PV.und j x = true ∧ PV.und j y = true := by
  constructor
  · intro h; exact ⟨h x (.inr (.inl rfl)), h y (.inr (.inr rfl))⟩
  · rintro ⟨h1, h2⟩ v (hv | rfl | rfl)
    · exact undL_mem (undL_ints j l) v hv
    · exact h1
    · exact h2
theorem bndL_right : ∀ {a b : List PV}, PV.bndL (a ++ b) → PV.bndL b
  | [], _, h => h
  | x :: a, b, h => bndL_right (a := a) (by rw [List.cons_append] at h; unfold PV.bndL at h; exact h.2)
abbrev vcl (c : Cal) (t : Town) : VObj := .cells (enc c.Hours :: enc c.Minutes :: enc c.Seconds :: enc c.Days :: enc c.Decrees :: (encL (moreA c).l ++ [enc t.Ahead, enc t.Changes]))
def aheadPF (v : V) (k : Int) : Option Int := if v.a.b.l = (moreA v.a.a).l then some (aheadL v.b.Ahead v.b.Changes k) else none
theorem w_aheadP (hE : E.env.fn = G) : Ok E 81 (s2 aheadPF) := by
  refine ok2 fun v n r hr => ?_
  unfold aheadPF at hr
  split at hr
  · rename_i hm
    cases hr
    obtain ⟨⟨c, b⟩, t⟩ := v
    obtain rfl : b = moreA c := Arr.ext hm
    change VP E 81 [enc (vOf c t), enc n] (enc (aheadL t.Ahead t.Changes n))
    refine VP.bound fun hb => ?_
    have hb : (t.Changes.length : Int) < 9223372036854775808 := by
      rw [enc_vOf] at hb
      simp only [PV.bndL, PV.bnd] at hb
      have h1 := bndL_right hb.1.2.2.2.2.2
      simp at h1
      omega
    have h10 := (moreA c).h
    generalize hT : aheadL t.Ahead t.Changes n = T
    refine VP.run (A := F81) (goodV_nil) [] (by rw [hE]; rfl) (by simp [F81]) ?_; unfold F81; simp (implicitDefEqProofs := false) [enc_list, enc_vOf, h10, at10, at11]
    refine VW.loop_to 0 [(5, .int .i64 T)] [] (True) ?_ (fun hp f m hc => ?_)
    · obtain ⟨Inv, hI⟩ : ∃ Inv : Nat → List (Nat × PV) → VM → Prop, ∀ k f m, Inv k f m ↔ (∃ a : Int, f = [(1, .int .i64 n), (2, .ptr 0 17 0), (5, .int .i64 a), (13, enc t.Changes), (14, .int .i64 t.Changes.length), (15, .int .i64 k)] ∧ m = [vcl c t] ∧ T = aheadL a (t.Changes.drop k) n) := ⟨_, fun _ _ _ => Iff.rfl⟩
      refine VW.loop_cut Inv t.Changes.length ?_ ?_ ?_
      · exact ⟨_, _, (hI _ _ _).2 ⟨_, rfl, rfl, hT.symm⟩, ⟨1, [], by simp [enc_list,  h10], by simp, by simp, by simp (implicitDefEqProofs := false) [enc_list,  h10], by simp (implicitDefEqProofs := false) [enc_list,  h10]⟩⟩
      · intro k f m hk hi
        obtain ⟨a, rfl, rfl, hs⟩ := (hI _ _ _).1 hi
        have w1 : IntKind.i64.wrap ((k : Int) + 1) = k + 1 := wrap64 (by omega) (by omega)
        rw [List.drop_eq_getElem_cons hk, aheadL] at hs
        by_cases hx : t.Changes[k].Tick ≤ n
        · rw [if_pos hx] at hs
          refine VW.run goodV_nil [] ?_; simp (implicitDefEqProofs := false) [enc_list, hk, get_Change t.Changes k hk, w1, hx, spliceV, h10]
          exact ⟨_, _, (hI _ _ _).2 ⟨_, rfl, rfl, hs⟩, ⟨1, [], by simp [enc_list], by simp, by simp, by simp (implicitDefEqProofs := false) [enc_list], by simp (implicitDefEqProofs := false) [enc_list]⟩⟩
        · rw [if_neg hx] at hs
          refine VW.run goodV_nil [] ?_; simp (implicitDefEqProofs := false) [enc_list, hk, get_Change t.Changes k hk, w1, hx, spliceV, h10]
          exact ⟨_, _, (hI _ _ _).2 ⟨_, rfl, rfl, hs⟩, ⟨1, [], by simp [enc_list], by simp, by simp, by simp (implicitDefEqProofs := false) [enc_list], by simp (implicitDefEqProofs := false) [enc_list]⟩⟩
      · intro f m hi
        obtain ⟨a, rfl, rfl, hs⟩ := (hI _ _ _).1 hi
        rw [List.drop_length, aheadL] at hs
        subst hs
        refine VW.run goodV_nil [] ?_; simp (implicitDefEqProofs := false) [enc_list]
        exact ⟨0, [], by simp [enc_list], by simp, by simp, by simp (implicitDefEqProofs := false) [enc_list], by simp (implicitDefEqProofs := false) [enc_list]⟩
    · simp (implicitDefEqProofs := false); refine .ofCut hc (VW.run goodV_nil [] ?_); simp (implicitDefEqProofs := false) [enc_list]
  · cases hr
end Go.RS.DC

/- Walks: the program (14): rounded down. -/
namespace Go.RS.DC
open Go Go.RS
open Go.RS.Enc (enc dec)
variable {E : VEnv}
theorem down_eq (n b : Int) (hb : 0 < b) : n.tdiv b = (if n.tmod b < 0 then n / b + 1 else n / b) := by
  have e1 := Int.tmod_eq_emod (a := n) (b := b)
  have e2 := Int.mul_tdiv_add_tmod n b
  have e3 := Int.mul_ediv_add_emod n b
  have e4 := Int.emod_nonneg n (show b ≠ 0 by omega)
  have e5 := Int.emod_lt_of_pos n hb
  have e6 : (b.natAbs : Int) = b := by omega
  by_cases h : n.tmod b < 0
  · rw [if_pos h]
    have e7 : n.tmod b = n % b - b := by
      rw [e1] at h ⊢
      split at h
      · omega
      · rename_i hh; rw [if_neg hh]; omega
    have : b * n.tdiv b = b * (n / b + 1) := by rw [Int.mul_add]; omega
    exact Int.eq_of_mul_eq_mul_left (by omega) this
  · rw [if_neg h]
    have e7 : n.tmod b = n % b := by
      rw [e1] at h ⊢
      split at h
      · rename_i hh; rw [if_pos hh]; omega
      · omega
    have : b * n.tdiv b = b * (n / b) := by omega
    exact Int.eq_of_mul_eq_mul_left (by omega) this
theorem w_down (hE : E.env.fn = G) : Ok E 97 (s2 floorF) := by
  refine ok2 fun n b r hr => ?_
  unfold floorF at hr
  split at hr
  · rename_i hb
    cases hr
    have h0 : b ≠ 0 := by omega
    have h5 := div_bounds n b hb.1 hb.2.2.1 hb.2.2.2
    have hd := down_eq n b hb.1
    by_cases h : n.tmod b < 0
    · rw [if_pos h] at hd
      have w1 : IntKind.i64.wrap (n / b + 1) = n / b + 1 := wrap64 (by omega) (by omega)
      have w2 : IntKind.i64.wrap (n / b + 1 - 1) = n / b := by rw [show n / b + 1 - 1 = n / b by omega]; exact wrap64 (by omega) (by omega)
      have w3 : IntKind.i64.wrap (n / b) = n / b := wrap64 (by omega) (by omega)
      refine VP.run (A := F97) (goodV_nil) [] (by rw [hE]; rfl) (by simp [F97]) ?_; unfold F97; simp (implicitDefEqProofs := false) [enc_list, h0, hd, h, w1, w2, w3]
    · rw [if_neg h] at hd
      have w3 : IntKind.i64.wrap (n / b) = n / b := wrap64 (by omega) (by omega)
      refine VP.run (A := F97) (goodV_nil) [] (by rw [hE]; rfl) (by simp [F97]) ?_; unfold F97; simp (implicitDefEqProofs := false) [enc_list, h0, hd, h, w3]
  · cases hr
end Go.RS.DC

/- Walks: the program (15): readings moved. -/
namespace Go.RS.DC
open Go Go.RS
open Go.RS.Enc (enc dec)
variable {E : VEnv}
def movedPF (v : V) (r : Reading) (n : Int) : Option Reading := if KOk v.a ∧ rdOk r ∧ -100000 ≤ n ∧ n ≤ 100000 then some (movedR v.a.a r n) else none
theorem w_movedP (hE : E.env.fn = G) : Ok E 79 (s3 movedPF) := by
  refine ok3 fun v r n a hr => ?_
  unfold movedPF at hr
  split at hr
  · rename_i hc
    cases hr
    obtain ⟨⟨ho, hm⟩, hrd, n1, n2⟩ := hc
    obtain ⟨⟨c, b⟩, t⟩ := v
    obtain rfl : b = moreA c := Arr.ext hm
    change okC c = true at ho
    change VP E 79 [enc (vOf c t), enc r, enc n] (enc (movedR c r n))
    have o := okC_ok ho
    have a1 := o.h1
    have a2 := o.h2
    have a3 := o.m1
    have a4 := o.m2
    have h10 := (moreA c).h
    obtain ⟨_, g1, g2, g3, g4⟩ := thru_ok o hrd
    obtain ⟨h1, h2, h3, h4, h5, h6⟩ := hrd
    have w1 : IntKind.i64.wrap (r.Day * c.Hours) = r.Day * c.Hours := wrap64 (by omega) (by omega)
    have w2 : IntKind.i64.wrap (r.Day * c.Hours + r.Hour) = r.Day * c.Hours + r.Hour := wrap64 (by omega) (by omega)
    have w3 : IntKind.i64.wrap ((r.Day * c.Hours + r.Hour) * c.Minutes) = (r.Day * c.Hours + r.Hour) * c.Minutes := wrap64 (by omega) (by omega)
    have w4 : IntKind.i64.wrap ((r.Day * c.Hours + r.Hour) * c.Minutes + r.Minute) = thruR c r := wrap64 (by omega) (by omega)
    have ht : -200000000 ≤ thruR c r ∧ thruR c r ≤ 200000000 := by unfold thruR; omega
    have w5 : IntKind.i64.wrap (thruR c r + n) = thruR c r + n := wrap64 (by omega) (by omega)
    generalize hN : thruR c r + n = N at *
    have q := div_bounds N c.Minutes (by omega) (by omega) (by omega)
    have f1 : floorF N c.Minutes = some (N / c.Minutes) := if_pos ⟨by omega, by omega, by omega, by omega⟩
    have f2 : floorF (N / c.Minutes) c.Hours = some (N / c.Minutes / c.Hours) := if_pos ⟨by omega, by omega, q.1, q.2⟩
    have e1 := Int.mul_ediv_add_emod N c.Minutes
    have e2 := Int.emod_nonneg N (show c.Minutes ≠ 0 by omega)
    have e3 := Int.emod_lt_of_pos N (show 0 < c.Minutes by omega)
    have e4 := Int.mul_ediv_add_emod (N / c.Minutes) c.Hours
    have e5 := Int.emod_nonneg (N / c.Minutes) (show c.Hours ≠ 0 by omega)
    have e6 := Int.emod_lt_of_pos (N / c.Minutes) (show 0 < c.Hours by omega)
    have m1 : N / c.Minutes * c.Minutes = c.Minutes * (N / c.Minutes) := Int.mul_comm _ _
    have m2 : N / c.Minutes / c.Hours * c.Hours = c.Hours * (N / c.Minutes / c.Hours) := Int.mul_comm _ _
    have w6 : IntKind.i64.wrap (N / c.Minutes / c.Hours * c.Hours) = N / c.Minutes / c.Hours * c.Hours := wrap64 (by omega) (by omega)
    have w7 : IntKind.i64.wrap (N / c.Minutes - N / c.Minutes / c.Hours * c.Hours) = N / c.Minutes % c.Hours := by rw [wrap64 (by omega) (by omega)]; omega
    have w8 : IntKind.i64.wrap (N / c.Minutes * c.Minutes) = N / c.Minutes * c.Minutes := wrap64 (by omega) (by omega)
    have w9 : IntKind.i64.wrap (N - N / c.Minutes * c.Minutes) = N % c.Minutes := by rw [wrap64 (by omega) (by omega)]; omega
    have hmv : movedR c r n = ⟨N / c.Minutes / c.Hours, N / c.Minutes % c.Hours, N % c.Minutes, r.Second⟩ := by unfold movedR ofThru; rw [hN]
    rw [hmv]
    refine VP.run (A := F79) ((goodV_cons (w_down hE) goodV_nil)) [] (by rw [hE]; rfl) (by simp [F79]) ?_; unfold F79; simp (implicitDefEqProofs := false) [enc_list, enc_vOf, h10, w1, w2, w3, w4, w5, hN, f1, f2, w6, w7, w8, w9, spliceV]
  · cases hr
end Go.RS.DC

/- Walks: the program (16): local readings. -/
namespace Go.RS.DC
open Go Go.RS
open Go.RS.Enc (enc dec)
variable {E : VEnv}
theorem dec_V (c : Cal) (t : Town) : (dec (PV.agg (.int .i64 c.Hours :: .int .i64 c.Minutes :: .int .i64 c.Seconds :: .int .i64 c.Days :: .lst false c.Decrees.length 2 (encL c.Decrees) :: (encL (moreA c).l ++ [.int .i64 t.Ahead, .lst false t.Changes.length 2 (encL t.Changes)]))) : Option V) = some (vOf c t) := El.un_cells (vOf c t)
theorem take12 (c : Cal) (x y : PV) : List.take 12 (encL (moreA c).l ++ [x, y]) = encL (moreA c).l ++ [x, y] := List.take_of_length_le (by simp [(moreA c).h])
theorem take10v (c : Cal) (x y : PV) : List.take 10 (encL (moreA c).l ++ [x, y]) = encL (moreA c).l := by rw [List.take_append_of_le_length (by simp [(moreA c).h]), take10]
theorem fzL_app (M : VM) : ∀ (l : List Int) (q : List PV), PV.fzL M (encL l ++ q) = encL l ++ PV.fzL M q
  | [], q => rfl
  | x :: l, q => by
    have e : encL (x :: l) = .int .i64 x :: encL l := rfl
    rw [e, List.cons_append, List.cons_append, PV.fzL, fzL_app M l q]
    simp
def localPF (v : V) (k : Int) : Option Reading := if KOk v.a ∧ okT v.a.a v.b = true ∧ 0 ≤ k ∧ k < allR v.a.a then some (localR v.a.a v.b k) else none
set_option maxRecDepth 20000 in
theorem w_localP (hE : E.env.fn = G) (hgl : E.gl 1 = some [f130v, f131v]) : Ok E 68 (s2 localPF) := by
  refine ok2 fun v k a hr => ?_
  unfold localPF at hr
  split at hr
  · rename_i hc
    cases hr
    obtain ⟨⟨ho, hm⟩, hto, k0, k1⟩ := hc
    obtain ⟨⟨c, b⟩, t⟩ := v
    obtain rfl : b = moreA c := Arr.ext hm
    change okC c = true at ho
    change okT c t = true at hto
    change k < allR c at k1
    change VP E 68 [enc (vOf c t), enc k] (enc (localR c t k))
    have o := okC_ok ho
    have ot := okT_ok hto
    have hb := ot.ab k
    have h10 := (moreA c).h
    have hrd : rdOk (readR c k) := by
      have hv := (read_valid o k0 k1).1
      simp only [validR, Bool.and_eq_true, wi_iff] at hv
      have := o.h2
      have := o.m2
      have := o.d2
      unfold rdOk; omega
    have f1 : readPF (kOf c) k = some (readR c k) := if_pos ⟨KOk_of ho, k0, k1⟩
    have f2 : aheadPF (vOf c t) k = some (aheadL t.Ahead t.Changes k) := if_pos rfl
    have f3 : movedPF (vOf c t) (readR c k) (aheadL t.Ahead t.Changes k) = some (localR c t k) := if_pos ⟨KOk_of ho, hrd, by omega, by omega⟩
    have good := goodV_cons (w_readingP hE hgl) (goodV_cons (w_aheadP hE) (goodV_cons (w_movedP hE) goodV_nil))
    refine VP.run (A := F68) (good) [] (by rw [hE]; rfl) (by simp [F68]) ?_; unfold F68; simp (implicitDefEqProofs := false) [enc_list, enc_vOf, h10, f1, f2, f3, dec_V, dec_K2, take12, take10v, fzL_app, fzL_ints, isFL_append, encL_isF, spliceV]
  · cases hr
end Go.RS.DC

/- Walks: the program (17): visited. -/
namespace Go.RS.DC
open Go Go.RS
open Go.RS.Enc (enc dec)
variable {E : VEnv}
def zeroV : V := ⟨zeroK, ⟨0, []⟩⟩
theorem enc_zeroV : enc zeroV = .agg [.int .i64 0, .int .i64 0, .int .i64 0, .int .i64 0, .lst false 0 2 [], .int .i64 0, .int .i64 0, .int .i64 0, .int .i64 0, .int .i64 0, .int .i64 0, .int .i64 0, .int .i64 0, .int .i64 0, .int .i64 0, .int .i64 0, .lst false 0 2 []] := rfl
def VisitR (c : Cal) (t : Town) : V × Int := if CheckTownR c t = 0 then (vOf c t, 0) else (zeroV, CheckTownR c t)
theorem scal_app (l : List Int) (q : List PV) : (encL l ++ q).all PV.scal = q.all PV.scal := by rw [List.all_append, scal_ints, Bool.true_and]
set_option maxRecDepth 20000 in
theorem w_visited (hE : E.env.fn = G) : Ok E 66 (s2 fun c t => some (VisitR c t)) := by
  refine ok2 fun c t r hr => ?_
  cases hr
  have good := goodV_cons (w_CheckTownP hE) (goodV_cons (w_opened hE) goodV_nil)
  by_cases h0 : CheckTownR c t = 0
  · obtain ⟨ho, hto⟩ := checkTown_zero h0
    have h10 := (moreA c).h
    have hd15 : ∀ (a b c' e g : PV), List.drop 15 (a :: b :: c' :: e :: g :: encL (moreA c).l) = [] := fun a b c' e g => List.drop_eq_nil_of_le (by simp [h10])
    have hd12 : ∀ (x y : PV), List.drop 12 (encL (moreA c).l ++ [x, y]) = [] := fun x y => List.drop_eq_nil_of_le (by simp [h10])
    have hd10 : ∀ (x y : PV), List.drop 10 (encL (moreA c).l ++ [x, y]) = [x, y] := fun x y => by rw [List.drop_append, List.drop_eq_nil_of_le (by simp [h10])]; simp [h10]
    have hV : VisitR c t = (vOf c t, 0) := if_pos h0
    rw [hV]
    refine VP.run (A := F66) (good) [] (by rw [hE]; rfl) (by simp [F66]) ?_; unfold F66; simp (implicitDefEqProofs := false) [enc_list, h0, open_ok ho, enc_kOf2, enc_vOf, h10, take10, take12, take10v, hd15, hd12, hd10, spliceV, fzL_ints, fzL_app, scal_app, scal_ints, scal_int, scal_lst, -PV.scal, -List.all_eq_true]
    done
  · have hV : VisitR c t = (zeroV, CheckTownR c t) := if_neg h0
    rw [hV]
    refine VP.run (A := F66) (good) [] (by rw [hE]; rfl) (by simp [F66]) ?_; unfold F66; simp (implicitDefEqProofs := false) [enc_list, h0, enc_zeroV, spliceV]
    done
end Go.RS.DC

/- Walks: the program (18): the local reading told. -/
namespace Go.RS.DC
open Go Go.RS
open Go.RS.Enc (enc dec)
variable {E : VEnv}
set_option maxRecDepth 20000 in
theorem w_LocalP (hE : E.env.fn = G) (hgl : E.gl 1 = some [f130v, f131v]) : Ok E 36 (s3 fun c t k => some (LocalR c t k)) := by
  refine ok3 fun c t k r hr => ?_
  cases hr
  have good := goodV_cons (w_visited hE) (goodV_cons (w_isTickP hE) (goodV_cons (w_localP hE hgl) goodV_nil))
  by_cases h0 : CheckTownR c t = 0
  · obtain ⟨ho, hto⟩ := checkTown_zero h0
    have h10 := (moreA c).h
    have hd17 : ∀ (a b c' e g x y : PV), List.drop 17 (a :: b :: c' :: e :: g :: (encL (moreA c).l ++ [x, y])) = [] := fun a b c' e g x y => List.drop_eq_nil_of_le (by simp [h10])
    have hd12 : ∀ (x y : PV), List.drop 12 (encL (moreA c).l ++ [x, y]) = [] := fun x y => List.drop_eq_nil_of_le (by simp [h10])
    have hV : VisitR c t = (vOf c t, 0) := if_pos h0
    have f1 : isTickPF (kOf c) k = some (wi k 0 (allR c - 1)) := if_pos (KOk_of ho)
    cases hd : wi k 0 (allR c - 1)
    · refine VP.run (A := F36) (good) [] (by rw [hE]; rfl) (by simp [F36]) ?_; unfold F36; simp (implicitDefEqProofs := false) [enc_list, hV, LocalR, h0, hd, f1, zeroRd, enc_vOf, h10, take10, take12, take10v, hd17, hd12, dec_K2, spliceV, fzL_ints, fzL_app, isFL_append, encL_isF, scal_app, scal_ints, scal_int, scal_lst, -PV.scal, -List.all_eq_true]
    · obtain ⟨g1, g2⟩ := (wi_iff _ _ _).1 hd
      have f2 : localPF (vOf c t) k = some (localR c t k) := if_pos ⟨KOk_of ho, hto, by omega, by show k < allR c; omega⟩
      refine VP.run (A := F36) (good) [] (by rw [hE]; rfl) (by simp [F36]) ?_; unfold F36; simp (implicitDefEqProofs := false) [enc_list, hV, LocalR, h0, hd, f1, f2, enc_vOf, h10, take10, take12, take10v, hd17, hd12, dec_K2, dec_V, spliceV, fzL_ints, fzL_app, isFL_append, encL_isF, scal_app, scal_ints, scal_int, scal_lst, -PV.scal, -List.all_eq_true]
  · have hV : VisitR c t = (zeroV, CheckTownR c t) := if_neg h0
    refine VP.run (A := F36) (good) [] (by rw [hE]; rfl) (by simp [F36]) ?_; unfold F36; simp (implicitDefEqProofs := false) [enc_list, hV, LocalR, h0, zeroRd, enc_zeroV, spliceV]
end Go.RS.DC

/- Walks: the program (19): the next tick whose second can be divided. -/
namespace Go.RS.DC
open Go Go.RS
open Go.RS.Enc (enc dec)
variable {E : VEnv}
theorem get_pre {α : Type} {pre : List α} {n : Nat} (h : pre.length = n) (l : List α) (i : Nat) : (pre ++ l)[n + i]? = l[i]? := by
  subst h; rw [List.getElem?_append_right (by omega)]; congr 1; omega
theorem get_pre0 {α : Type} {pre : List α} {n : Nat} (h : pre.length = n) (l : List α) : (pre ++ l)[n]? = l[0]? := get_pre h l 0
theorem set_pre {α : Type} {pre : List α} {n : Nat} (h : pre.length = n) (l : List α) (i : Nat) (x : α) : (pre ++ l).set (n + i) x = pre ++ l.set i x := by
  subst h; rw [List.set_append_right _ _ (by omega)]; congr 2; omega
theorem set_pre0 {α : Type} {pre : List α} {n : Nat} (h : pre.length = n) (l : List α) (x : α) : (pre ++ l).set n x = pre ++ l.set 0 x := set_pre h l 0 x
theorem get_hr {α : Type} {pre : List α} {b : Nat} {x : α} (h : pre[b]? = some x) (l : List α) : (pre ++ l)[b]? = some x := by
  rw [List.getElem?_append_left (List.getElem?_eq_some_iff.1 h).1, h]
theorem spc_yield (sp : Spec) (M : VM) (t : Nat) (args : List PV) : spc sp M (.yield t) args = none := rfl
theorem pend_jump (e : AExit) : pendExit e.jump = e := by cases e <;> rfl
theorem mkF_und {l : List (Nat × PV)} {j : Nat} (h : ∀ p ∈ l, p.2.und j = true) (i : Nat) : (mkF l i).und j = true := by
  rcases mkF_mem (l := l) (i := i) with h1 | h1
  · rw [h1]; rfl
  · exact h _ h1
theorem cut_pre {f : VFr} {l : List (Nat × PV)} {pre : VM} {L0 : VObj} {ext : VM} {n0 : Nat} (hl : pre.length = n0) (hu : ∀ o ∈ pre, o.und (n0 + 1)) (h0 : L0.und (n0 + 1)) (hs : ∀ p ∈ l, (f p.1).le p.2 ∧ p.2.und (n0 + 1) = true) : Cut (n0 + 1) f (pre ++ L0 :: ext) l (pre ++ [L0]) := by
  subst hl
  have e : pre ++ [L0] = (forgetL [] (pre ++ L0 :: ext)).take (pre.length + 1) := by
    rw [forgetL_nil, List.take_append, List.take_of_length_le (by omega)]; simp
  refine ⟨pre.length + 1, [], e, Nat.le_refl _, by simp, hs, ?_⟩
  rw [← e]
  intro o ho
  rcases List.mem_append.1 ho with ho | ho
  · exact hu o ho
  · simp at ho; exact ho ▸ h0
end Go.RS.DC

