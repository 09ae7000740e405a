/- Walks: the program (1): a calendar that was opened. -/
import Derived.Test.YtmlogniaahnamaaDoorDwa
import Derived.Test.YtmlogniaahnamaaDoorPvc
set_option linter.all false
namespace Go.RS.DC
open Go Go.RS
open Go.RS.Enc (enc dec)
variable {E : VEnv}
/-- A calendar with its days' further seconds. -/
abbrev K := Cat Cal (Arr 10 Int)
def moreA (c : Cal) : Arr 10 Int := ⟨(List.range 10).map fun (d : Nat) => moreR c.Decrees d, by simp⟩
def kOf (c : Cal) : K := ⟨c, moreA c⟩
abbrev zeros10 : List Int := [0, 0, 0, 0, 0, 0, 0, 0, 0, 0]
def none10 : Arr 10 Int := ⟨zeros10, rfl⟩
theorem w_none (hE : E.env.fn = G) : Ok E 77 (s0 (some none10)) := by
  refine ok0 fun r hr => ?_
  cases hr
  refine VP.run (A := F77) (goodV_nil) [] (by rw [hE]; rfl) (by simp [F77]) ?_; unfold F77; simp (implicitDefEqProofs := false) [enc_list, spliceV, enc_Arr, none10, encL_cons]
theorem w_minutes (hE : E.env.fn = G) : Ok E 99 (s1 fun (k : K) => some (IntKind.i64.wrap (k.a.Hours * k.a.Minutes))) := by
  refine ok1 fun k r hr => ?_
  cases hr
  refine VP.run (A := F99) (goodV_nil) [] (by rw [hE]; rfl) (by simp [F99]) ?_; unfold F99; simp (implicitDefEqProofs := false) [enc_list, enc_Cat]
theorem take10 (b : Arr 10 Int) : List.take 10 (encL b.l) = encL b.l := List.take_of_length_le (by rw [encL_length, b.h]; exact Nat.le_refl _)
theorem dec_K (c : Cal) (b : Arr 10 Int) : (dec (PV.agg (.int .i64 c.Hours :: .int .i64 c.Minutes :: .int .i64 c.Seconds :: .int .i64 c.Days :: .lst false c.Decrees.length 2 (encL c.Decrees) :: encL b.l)) : Option K) = some ⟨c, b⟩ := dec_Cat c b
theorem fzL_ints (M : VM) : ∀ l : List Int, PV.fzL M (encL l) = encL l
  | [] => rfl
  | x :: l => by
    have e : encL (x :: l) = .int .i64 x :: encL l := rfl
    rw [e, PV.fzL, fzL_ints M l]
    simp
def KOk (k : K) : Prop := okC k.a = true ∧ k.b.l = (moreA k.a).l
instance (k : K) : Decidable (KOk k) := by unfold KOk; infer_instance
theorem moreA_at (c : Cal) (d : Nat) (h : d < 10) : (moreA c).l[d]'(by rw [(moreA c).h]; exact h) = moreR c.Decrees d := by simp [moreA]
def lenPF (k : K) (d : Int) : Option Int := if KOk k ∧ 0 ≤ d ∧ d < 10 then some (lenR k.a d) else none
theorem w_lenP (hE : E.env.fn = G) : Ok E 95 (s2 lenPF) := by
  refine ok2 fun k d r hr => ?_
  unfold lenPF at hr
  split at hr
  · rename_i hc
    cases hr
    obtain ⟨⟨ho, hm⟩, d0, d1⟩ := hc
    obtain ⟨c, b⟩ := k
    obtain rfl : b = moreA c := Arr.ext hm
    change okC c = true at ho
    obtain ⟨d, rfl⟩ : ∃ n : Nat, d = n := ⟨d.toNat, by omega⟩
    have hd : d < 10 := by omega
    have o := okC_ok ho
    have hm1 := o.hm1
    have hm2 := o.hm2
    have w3 := o.w3
    have w2 := o.w2
    have w1 := o.w1
    have s1 := o.s1
    have mb := o.mb d
    have v0 : IntKind.i64.wrap (c.Hours * c.Minutes) = c.Hours * c.Minutes := wrap64 (by omega) (by omega)
    have v1 : IntKind.i64.wrap (c.Hours * c.Minutes * c.Seconds) = c.Hours * c.Minutes * c.Seconds := wrap64 (by omega) (by omega)
    have v2 : IntKind.i64.wrap (c.Hours * c.Minutes * c.Seconds + moreR c.Decrees d) = lenR c d := by unfold lenR; exact wrap64 (by omega) (by omega)
    have hl : d < (moreA c).l.length := by rw [(moreA c).h]; exact hd
    have hg := get_Int (moreA c).l d hl
    rw [moreA_at c d hd] at hg
    have h10 := (moreA c).h
    have ht := take10 (moreA c)
    have hg1 : List.drop d (encL (moreA c).l) = .int .i64 (moreR c.Decrees d) :: encL ((moreA c).l.drop (d + 1)) := by simpa using hg
    have hdr : ∀ (a b c' e f : PV), List.drop (5 + d) (a :: b :: c' :: e :: f :: encL (moreA c).l) = .int .i64 (moreR c.Decrees d) :: encL ((moreA c).l.drop (d + 1)) := by
      intro a b c' e f
      rw [Nat.add_comm, show d + 5 = d + 1 + 1 + 1 + 1 + 1 from rfl]
      simp only [List.drop_succ_cons]
      exact hg1
    have hget : ∀ (a b c' e f : PV), (a :: b :: c' :: e :: f :: encL (moreA c).l)[5 + d]? = some (.int .i64 (moreR c.Decrees d)) := by
      intro a b c' e f
      have := congrArg List.head? (hdr a b c' e f)
      rwa [List.head?_drop] at this
    refine VP.run (A := F95) ((goodV_cons (w_minutes hE) goodV_nil)) [] (by rw [hE]; rfl) (by simp [F95]) ?_; unfold F95; simp (implicitDefEqProofs := false) [enc_list, enc_Cat, cells_Arr, v0, v1, v2, hd, d1, hdr, hget, h10, ht, dec_K, fzL_ints, encL_isF]
  · cases hr
end Go.RS.DC

/- Walks: the program (2): where days begin. -/
namespace Go.RS.DC
open Go Go.RS
open Go.RS.Enc (enc dec)
variable {E : VEnv}
def sumL : List Int → Int
  | [] => 0
  | x :: l => x + sumL l
theorem sumL_snoc (x : Int) : ∀ l : List Int, sumL (l ++ [x]) = sumL l + x
  | [] => by simp [sumL]
  | y :: l => by rw [List.cons_append, sumL, sumL, sumL_snoc x l]; omega
theorem sumL_take (l : List Int) (k : Nat) (hk : k < l.length) : sumL (l.take (k + 1)) = sumL (l.take k) + l[k] := by
  rw [List.take_succ_eq_append_getElem hk, sumL_snoc]
def smallL (l : List Int) : Prop := l.length ≤ 1000 ∧ ∀ x ∈ l, 0 ≤ x ∧ x ≤ 100000
instance (l : List Int) : Decidable (smallL l) := by unfold smallL; infer_instance
theorem sumL_b : ∀ (l : List Int), (∀ x ∈ l, 0 ≤ x ∧ x ≤ 100000) → 0 ≤ sumL l ∧ sumL l ≤ l.length * 100000
  | [], _ => by simp [sumL]
  | x :: l, h => by
    have h1 := h x (by simp)
    have h2 := sumL_b l fun y hy => h y (by simp [hy])
    rw [sumL, List.length_cons]
    omega
theorem w_sum (hE : E.env.fn = G) : Ok E 96 (s1 fun (l : List Int) => if smallL l then some (sumL l) else none) := by
  refine ok1 fun l r hr => ?_
  split at hr
  · rename_i hc
    cases hr
    obtain ⟨hl, hx⟩ := hc
    refine VP.run (A := F96) (goodV_nil) [] (by rw [hE]; rfl) (by simp [F96]) ?_; unfold F96; simp (implicitDefEqProofs := false) [enc_list]
    refine VW.loop_to 0 [(3, .int .i64 (sumL l))] [] (True) ?_ (fun hp f m hc => ?_)
    · obtain ⟨Inv, hI⟩ : ∃ Inv : Nat → List (Nat × PV) → VM → Prop, ∀ k f m, Inv k f m ↔ (f = [(3, .int .i64 (sumL (l.take k))), (6, enc l), (7, .int .i64 l.length), (8, .int .i64 k)] ∧ m = []) := ⟨_, fun _ _ _ => Iff.rfl⟩
      refine VW.loop_cut Inv l.length ?_ ?_ ?_
      · exact ⟨_, _, (hI _ _ _).2 ⟨rfl, rfl⟩, ⟨0, [], by simp [enc_list,  sumL], by simp, by simp, by simp (implicitDefEqProofs := false) [enc_list,  sumL], by simp (implicitDefEqProofs := false) [enc_list,  sumL]⟩⟩
      · intro k f m hk hi
        obtain ⟨rfl, rfl⟩ := (hI _ _ _).1 hi
        have hb := sumL_b (l.take (k + 1)) fun y hy => hx y (List.mem_of_mem_take hy)
        have hlt : (l.take (k + 1)).length ≤ 1000 := by rw [List.length_take]; omega
        have hs := sumL_take l k hk
        have w1 : IntKind.i64.wrap ((k : Int) + 1) = k + 1 := wrap64 (by omega) (by omega)
        have w2 : IntKind.i64.wrap (sumL (l.take k) + l[k]) = sumL (l.take (k + 1)) := by rw [← hs]; exact wrap64 (by omega) (by omega)
        refine VW.run goodV_nil [] ?_; simp (implicitDefEqProofs := false) [enc_list, hk, get_Int l k hk, w1, w2]
        exact ⟨_, _, (hI _ _ _).2 ⟨rfl, rfl⟩, ⟨0, [], by simp [enc_list], by simp, by simp, by simp (implicitDefEqProofs := false) [enc_list], by simp (implicitDefEqProofs := false) [enc_list]⟩⟩
      · intro f m hi
        obtain ⟨rfl, rfl⟩ := (hI _ _ _).1 hi
        rw [List.take_length]
        refine VW.run goodV_nil [] ?_; simp (implicitDefEqProofs := false) [enc_list]
        exact ⟨0, [], by simp [enc_list], by simp, by simp, by simp (implicitDefEqProofs := false) [enc_list], by simp (implicitDefEqProofs := false) [enc_list]⟩
    · simp (implicitDefEqProofs := false); refine .ofCut hc (VW.run goodV_nil [] ?_); simp (implicitDefEqProofs := false) [enc_list]
  · cases hr
theorem begR_flat {c : Cal} (h : (moreA c).l = zeros10) : ∀ n : Nat, n ≤ 10 → begR c n = n * lenR c 0
  | 0, _ => by simp [begR]
  | n + 1, hn => by
    have h1 : ∀ d : Nat, d < 10 → moreR c.Decrees d = 0 := by
      intro d hd
      have e := moreA_at c d hd
      have : (moreA c).l[d]'(by rw [(moreA c).h]; exact hd) = zeros10[d]'(by exact hd) := by congr 1
      rw [this] at e
      rw [← e]
      match d, hd with
      | 0, _ | 1, _ | 2, _ | 3, _ | 4, _ | 5, _ | 6, _ | 7, _ | 8, _ | 9, _ => rfl
    have h2 : lenR c n = lenR c 0 := by
      have e0 := h1 0 (by omega)
      have en := h1 n (by omega)
      unfold lenR
      rw [en]
      exact congrArg _ e0.symm
    rw [begR, begR_flat h n (by omega), h2, show ((n + 1 : Nat) : Int) = (n : Int) + 1 from rfl, Int.add_mul]
    omega
def lensL (c : Cal) (n : Nat) : List Int := (List.range n).map fun (d : Nat) => lenR c d
theorem lens_len (c : Cal) (n : Nat) : (lensL c n).length = n := by simp [lensL]
theorem lens_snoc (c : Cal) (n : Nat) : lensL c n ++ [lenR c n] = lensL c (n + 1) := by unfold lensL; rw [List.range_succ]; simp
theorem lens_sum (c : Cal) : ∀ n : Nat, sumL (lensL c n) = begR c n
  | 0 => rfl
  | n + 1 => by rw [← lens_snoc, sumL_snoc, lens_sum c n, begR]
theorem undL_ints (j : Nat) (l : List Int) : PV.undL j (encL l) = true := undL_isF (encL_isF l)
@[simp] theorem und_ints (j : Nat) (l : List Int) : (∀ v, v ∈ encL l → PV.und j v = true) ↔ True := iff_true_intro fun v hv => undL_mem (undL_ints j l) v hv
abbrev kc (c : Cal) : VObj := .cells (enc c.Hours :: enc c.Minutes :: enc c.Seconds :: enc c.Days :: enc c.Decrees :: encL (moreA c).l)
def untilPF (k : K) (n : Int) : Option Int := if KOk k ∧ 0 ≤ n ∧ n ≤ 10 then some (begR k.a n.toNat) else none
theorem atoms10 (a : Arr 10 Int) (b : Arr 10 Int) : atomsEqV [.int, .int, .int, .int, .int, .int, .int, .int, .int, .int] (encL a.l) (encL b.l) = some (decide (a.l = b.l)) := by
  have := atoms_ints a.l b.l (by rw [a.h, b.h])
  rw [a.h] at this
  exact this
theorem w_until (hE : E.env.fn = G) : Ok E 78 (s2 untilPF) := by
  refine ok2 fun k n r hr => ?_
  unfold untilPF at hr
  split at hr
  · rename_i hc
    cases hr
    obtain ⟨hk, n0, n1⟩ := hc
    have hk' := hk
    obtain ⟨ho, hm⟩ := hk'
    obtain ⟨c, b⟩ := k
    obtain rfl : b = moreA c := Arr.ext hm
    change okC c = true at ho
    obtain ⟨n, rfl⟩ : ∃ d : Nat, n = d := ⟨n.toNat, by omega⟩
    rw [Int.toNat_natCast]
    change VP E 78 [enc (⟨c, moreA c⟩ : K), enc (n : Int)] (enc (begR c n))
    have o := okC_ok ho
    have h10 := (moreA c).h
    have ht := take10 (moreA c)
    have hL : ∀ d : Nat, d < 10 → lenPF ⟨c, moreA c⟩ d = some (lenR c d) := fun d hd => if_pos ⟨hk, by omega, by omega⟩
    have h0 : lenPF ⟨c, moreA c⟩ 0 = some (lenR c 0) := hL 0 (by omega)
    have hat := atoms10 (moreA c) none10
    have hd := List.drop_left (l₁ := [enc c.Hours, enc c.Minutes, enc c.Seconds, enc c.Days, enc c.Decrees]) (l₂ := encL (moreA c).l)
    have good := goodV_cons (w_lenP hE) (goodV_cons (w_none hE) (goodV_cons (w_sum hE) goodV_nil))
    by_cases hz : (moreA c).l = none10.l
    · have hb := begR_flat hz n (by omega)
      have lb := o.lb 0
      have bb := begR_b o n
      have w1 : IntKind.i64.wrap (n * lenR c 0) = begR c n := by rw [← hb]; exact wrap64 (by omega) (by omega)
      rw [decide_eq_true hz] at hat
      clear hz
      refine VP.run (A := F78) (good) [] (by rw [hE]; rfl) (by simp [F78]) ?_; unfold F78; simp (implicitDefEqProofs := false) [enc_list, enc_Cat, cells_Arr, enc_Arr, h10, ht, dec_K, fzL_ints, encL_isF, hat, h0, w1]
    · rw [decide_eq_false hz] at hat
      clear hz
      refine VP.run (A := F78) (good) [] (by rw [hE]; rfl) (by simp [F78]) ?_; unfold F78; simp (implicitDefEqProofs := false) [enc_list, enc_Cat, cells_Arr, enc_Arr, h10, ht, dec_K, fzL_ints, encL_isF, hat, h0]
      have hu := undL_ints 2 (moreA c).l
      refine VW.declare 5 1 (by simp) ?_
      refine VW.loop_to 0 [(5, sl1 1 (lensL c n))] [kc c, .vec (encL (lensL c n))] (True) ?_ (fun hp f m hc => ?_)
      · obtain ⟨Inv, hI⟩ : ∃ Inv : Nat → List (Nat × PV) → VM → Prop, ∀ k f m, Inv k f m ↔ (f = [(2, .ptr 0 15 0), (5, sl1 1 (lensL c k)), (15, .int .i64 n), (16, .int .i64 k)] ∧ m = [kc c, .vec (encL (lensL c k))]) := ⟨_, fun _ _ _ => Iff.rfl⟩
        refine VW.loop_cut Inv n ?_ ?_ ?_
        · exact ⟨_, _, (hI _ _ _).2 ⟨rfl, rfl⟩, ⟨2, [], by simp [enc_list,  lensL, hu], by simp, by simp, by simp (implicitDefEqProofs := false) [enc_list,  lensL, hu], by simp (implicitDefEqProofs := false) [enc_list,  lensL, hu]⟩⟩
        · intro k f m hk hi
          obtain ⟨rfl, rfl⟩ := (hI _ _ _).1 hi
          have w1 : IntKind.i64.wrap ((k : Int) + 1) = k + 1 := wrap64 (by omega) (by omega)
          have hll := lens_len c k
          have hf : fits ((lensL c k).length + 1) 8 = true := fits8 (by omega)
          have h2 := hL k (by omega)
          have e1 := lens_len c (k + 1)
          refine VW.run good [] ?_; simp (implicitDefEqProofs := false) [enc_list, hk, enc_Cat, cells_Arr, enc_Arr, h10, ht, dec_K, fzL_ints, encL_isF, h2, w1, hf, spliceV, lens_snoc]
          exact ⟨_, _, (hI _ _ _).2 ⟨rfl, rfl⟩, ⟨2, [], by simp [enc_list,  e1, hll, hu], by simp, by simp, by simp (implicitDefEqProofs := false) [enc_list,  e1, hll, hu], by simp (implicitDefEqProofs := false) [enc_list,  e1, hll, hu]⟩⟩
        · intro f m hi
          obtain ⟨rfl, rfl⟩ := (hI _ _ _).1 hi
          refine VW.run good [] ?_; simp (implicitDefEqProofs := false) [enc_list]
          exact ⟨2, [], by simp [enc_list,  hu], by simp, by simp, by simp (implicitDefEqProofs := false) [enc_list,  hu], by simp (implicitDefEqProofs := false) [enc_list,  hu]⟩
      · have hs : smallL (lensL c n) := by
          refine ⟨by rw [lens_len]; omega, fun x hx => ?_⟩
          simp only [lensL, List.mem_map, List.mem_range] at hx
          obtain ⟨d, _, rfl⟩ := hx
          have := o.lb d
          omega
        have hsum := lens_sum c n
        simp (implicitDefEqProofs := false); refine .ofCut hc (VW.run good [] ?_); simp (implicitDefEqProofs := false) [enc_list, hs, hsum, if_pos hs]
  · cases hr
def totalPF (k : K) : Option Int := if KOk k then some (allR k.a) else none
theorem w_totalP (hE : E.env.fn = G) : Ok E 64 (s1 totalPF) := by
  refine ok1 fun k r hr => ?_
  unfold totalPF at hr
  split at hr
  · rename_i hk
    cases hr
    have hk' := hk
    obtain ⟨ho, hm⟩ := hk'
    obtain ⟨c, b⟩ := k
    obtain rfl : b = moreA c := Arr.ext hm
    have o := okC_ok ho
    have d1 := o.d1
    have d2 := o.d2
    have h10 := (moreA c).h
    have ht := take10 (moreA c)
    have h2 : untilPF ⟨c, moreA c⟩ c.Days = some (allR c) := if_pos ⟨hk, by simp only at d1; omega, by simp only at d2; omega⟩
    refine VP.run (A := F64) ((goodV_cons (w_until hE) goodV_nil)) [] (by rw [hE]; rfl) (by simp [F64]) ?_; unfold F64; simp (implicitDefEqProofs := false) [enc_list, enc_Cat, cells_Arr, h10, ht, dec_K, fzL_ints, encL_isF, h2]
  · cases hr
def isTickPF (k : K) (t : Int) : Option Bool := if KOk k then some (wi t 0 (allR k.a - 1)) else none
theorem w_isTickP (hE : E.env.fn = G) : Ok E 67 (s2 isTickPF) := by
  refine ok2 fun k t r hr => ?_
  unfold isTickPF at hr
  split at hr
  · rename_i hk
    cases hr
    have hk' := hk
    obtain ⟨ho, hm⟩ := hk'
    obtain ⟨c, b⟩ := k
    obtain rfl : b = moreA c := Arr.ext hm
    have o := okC_ok ho
    have ab := allR_b o
    simp only at ab
    have h10 := (moreA c).h
    have ht := take10 (moreA c)
    have h2 : totalPF ⟨c, moreA c⟩ = some (allR c) := if_pos hk
    have w1 : IntKind.i64.wrap (allR c - 1) = allR c - 1 := wrap64 (by omega) (by omega)
    refine VP.run (A := F67) ((goodV_cons (w_totalP hE) (goodV_cons (w_within hE) goodV_nil))) [] (by rw [hE]; rfl) (by simp [F67]) ?_; unfold F67; simp (implicitDefEqProofs := false) [enc_list, enc_Cat, cells_Arr, h10, ht, dec_K, fzL_ints, encL_isF, h2, w1]
  · cases hr
end Go.RS.DC

/- Walks: the program (3): the check. -/
namespace Go.RS.DC
open Go Go.RS
open Go.RS.Enc (enc dec)
variable {E : VEnv}
theorem w_CheckP (hE : E.env.fn = G) : Ok E 76 (s1 fun c => some (checkR c)) := by
  refine ok1 fun c r hr => ?_
  cases hr
  refine VP.bound fun hb => ?_
  simp [enc_list] at hb
  have hlen10 : ((c.Decrees.length : Int) ≤ 10) = (c.Decrees.length ≤ 10) := by apply propext; omega
  have good := goodV_cons (w_within hE) goodV_nil
  have hck : checkR c = if okC c = true then 0 else 10 := rfl
  have hok : okC c = (headC c && climbD c.Days 0 c.Decrees) := rfl
  generalize hT : okC c = T at hck hok
  rw [hck]
  refine VP.func (A := F76) (by rw [hE]; rfl) (by simp [F76]) ?_; unfold F76
  refine VW.seq (VW.run good [] ?_); simp (implicitDefEqProofs := false) [enc_list]
  refine VW.seq_cut [(1, .ptr 0 5 0), (3, .bool (headC c))] [clc c] (VW.run good [] ?_) ?_; simp (implicitDefEqProofs := false) [enc_list]
  · repeat' (first | (refine vstep_split (fun hb => ?_) (fun hb => ?_) <;> (try simp only [Bool.not_eq_eq_eq_not, Bool.not_true, Bool.not_false, decide_eq_true_eq, decide_eq_false_iff_not] at hb) <;> simp (implicitDefEqProofs := false) [hb, enc_list]) | (refine vcond_split (fun hb => ?_) (fun hb => ?_) <;> (try simp only [Bool.not_eq_eq_eq_not, Bool.not_true, Bool.not_false, decide_eq_true_eq, decide_eq_false_iff_not] at hb) <;> simp (implicitDefEqProofs := false) [hb, enc_list]))
    all_goals exact ⟨1, [], by simp [enc_list,  headC, hlen10, *], by simp, by simp, by simp (implicitDefEqProofs := false) [enc_list,  headC, hlen10, *], by simp (implicitDefEqProofs := false) [enc_list,  headC, hlen10, *]⟩
  refine VW.run good [] ?_; simp (implicitDefEqProofs := false) [enc_list]
  refine VW.loop_to 0 [(3, .bool T)] [] (True) ?_ (fun hp f m hc => ?_)
  · obtain ⟨Inv, hI⟩ : ∃ Inv : Nat → List (Nat × PV) → VM → Prop, ∀ k f m, Inv k f m ↔ (∃ (s : Bool) (p : Int), f = [(1, .ptr 0 5 0), (3, .bool s), (4, .int .i64 p), (32, enc c.Decrees), (33, .int .i64 c.Decrees.length), (34, .int .i64 k)] ∧ m = [clc c] ∧ T = (s && climbD c.Days (p + 1) (c.Decrees.drop k)) ∧ (s = true → headC c = true ∧ -1 ≤ p ∧ p ≤ 9)) := ⟨_, fun _ _ _ => Iff.rfl⟩
    refine VW.loop_cut Inv c.Decrees.length ?_ ?_ ?_
    · exact ⟨_, _, (hI _ _ _).2 ⟨headC c, -1, rfl, rfl, by rw [List.drop_zero]; exact hok, fun h => ⟨h, by omega, by omega⟩⟩, ⟨1, [], by simp [enc_list], by simp, by simp, by simp (implicitDefEqProofs := false) [enc_list], by simp (implicitDefEqProofs := false) [enc_list]⟩⟩
    · intro k f m hk hi
      obtain ⟨s, p, rfl, rfl, hs, hp⟩ := (hI _ _ _).1 hi
      have w1 : IntKind.i64.wrap ((k : Int) + 1) = k + 1 := wrap64 (by omega) (by omega)
      rw [List.drop_eq_getElem_cons hk, climbD] at hs
      cases s
      · rw [Bool.false_and] at hs
        refine VW.run good [] ?_; simp (implicitDefEqProofs := false) [enc_list, hk, get_Decree c.Decrees k hk, w1, spliceV]
        exact ⟨_, _, (hI _ _ _).2 ⟨false, c.Decrees[k].Day, rfl, rfl, by rw [hs]; rfl, fun h => by cases h⟩, ⟨1, [], by simp [enc_list], by simp, by simp, by simp (implicitDefEqProofs := false) [enc_list], by simp (implicitDefEqProofs := false) [enc_list]⟩⟩
      · obtain ⟨hh, p1, p2⟩ := hp rfl
        simp only [headC, Bool.and_eq_true, wi_iff] at hh
        have w2 : IntKind.i64.wrap (p + 1) = p + 1 := wrap64 (by omega) (by omega)
        have w3 : IntKind.i64.wrap (c.Days - 1) = c.Days - 1 := wrap64 (by omega) (by omega)
        rw [Bool.true_and] at hs
        cases hw : wi c.Decrees[k].Day (p + 1) (c.Days - 1)
        · rw [hw, Bool.false_and] at hs
          refine VW.run good [] ?_; simp (implicitDefEqProofs := false) [enc_list, hk, get_Decree c.Decrees k hk, w1, w2, w3, hw, spliceV]
          exact ⟨_, _, (hI _ _ _).2 ⟨false, c.Decrees[k].Day, rfl, rfl, by rw [hs]; rfl, fun h => by cases h⟩, ⟨1, [], by simp [enc_list], by simp, by simp, by simp (implicitDefEqProofs := false) [enc_list], by simp (implicitDefEqProofs := false) [enc_list]⟩⟩
        · obtain ⟨g1, g2⟩ := (wi_iff _ _ _).1 hw
          rw [hw, Bool.true_and] at hs
          refine VW.run good [] ?_; simp (implicitDefEqProofs := false) [enc_list, hk, get_Decree c.Decrees k hk, w1, w2, w3, hw, spliceV]
          exact ⟨_, _, (hI _ _ _).2 ⟨true, c.Decrees[k].Day, rfl, rfl, by rw [hs]; rfl, fun _ => ⟨(hp rfl).1, by omega, by omega⟩⟩, ⟨1, [], by simp [enc_list], by simp, by simp, by simp (implicitDefEqProofs := false) [enc_list], by simp (implicitDefEqProofs := false) [enc_list]⟩⟩
    · intro f m hi
      obtain ⟨s, p, rfl, rfl, hs, hp⟩ := (hI _ _ _).1 hi
      rw [List.drop_length, climbD, Bool.and_true] at hs
      subst hs
      refine VW.run good [] ?_; simp (implicitDefEqProofs := false) [enc_list]
      exact ⟨0, [], by simp [enc_list], by simp, by simp, by simp (implicitDefEqProofs := false) [enc_list], by simp (implicitDefEqProofs := false) [enc_list]⟩
  · simp (implicitDefEqProofs := false); refine .ofCut hc (VW.run good [] ?_); simp (implicitDefEqProofs := false) [enc_list]
    cases T <;> simp (implicitDefEqProofs := false) [enc_list]
end Go.RS.DC

/- Walks: the program (4): opened. -/
namespace Go.RS.DC
open Go Go.RS
open Go.RS.Enc (enc dec)
variable {E : VEnv}
theorem moreR_app (l : List Decree) (x : Decree) (d : Int) : moreR (l ++ [x]) d = moreR l d + (if x.Day = d then (if x.Plus then 1 else -1) else 0) := by
  induction l with
  | nil => simp [moreR]
  | cons y l ih => rw [List.cons_append, moreR, moreR, ih]; omega
def moreK (l : List Decree) : List Int := (List.range 10).map fun (d : Nat) => moreR l d
theorem moreK_len (l : List Decree) : (moreK l).length = 10 := by simp [moreK]
theorem moreK_nil : moreK [] = zeros10 := rfl
theorem moreK_set (l : List Decree) (x : Decree) (d : Nat) (hx : x.Day = d) (h0 : moreR l d = 0) : (moreK l).set d (if x.Plus then 1 else -1) = moreK (l ++ [x]) := by
  apply List.ext_getElem
  · simp [moreK]
  · intro i h1 h2
    rw [List.getElem_set]
    simp only [moreK, List.getElem_map, List.getElem_range, moreR_app, hx]
    by_cases hi : d = i
    · subst hi; simp [h0]
    · rw [if_neg hi, if_neg (by omega)]; omega
theorem climb_sorted (n : Int) : ∀ (l : List Decree) (a : Int), climbD n a l = true → l.Pairwise (fun x y => x.Day < y.Day) ∧ ∀ x ∈ l, a ≤ x.Day ∧ x.Day ≤ n - 1
  | [], _, _ => ⟨.nil, fun _ h => by cases h⟩
  | x :: l, a, h => by
    simp only [climbD, Bool.and_eq_true, wi_iff] at h
    obtain ⟨g1, g2⟩ := climb_sorted n l _ h.2
    refine ⟨List.pairwise_cons.2 ⟨fun y hy => by have := (g2 y hy).1; omega, g1⟩, fun y hy => ?_⟩
    rcases List.mem_cons.1 hy with rfl | hy
    · exact h.1
    · have := g2 y hy; omega
theorem take_zero {l : List Decree} {k : Nat} (h : l.Pairwise (fun x y => x.Day < y.Day)) (hk : k < l.length) : moreR (l.take k) l[k].Day = 0 := by
  have hx : ∀ x ∈ l.take k, x.Day < l[k].Day := by
    intro x hx
    obtain ⟨i, hi, rfl⟩ := List.mem_take_iff_getElem.1 hx
    exact List.pairwise_iff_getElem.1 h i k (by omega) hk (by omega)
  generalize l.take k = q at hx
  generalize l[k].Day = d at hx
  induction q with
  | nil => rfl
  | cons y q ih =>
    rw [moreR, if_neg (by have := hx y (by simp); omega), ih fun z hz => hx z (by simp [hz])]
    rfl
theorem splice_at (p : List PV) (l : List Int) (d : Nat) (v : Int) (hp : p.length = 5) (h : d < l.length) : spliceV (p ++ encL l) (5 + d) [.int .i64 v] = p ++ encL (l.set d v) := by
  unfold spliceV
  have e : l.set d v = l.take d ++ v :: l.drop (d + 1) := by rw [List.set_eq_take_append_cons_drop, if_pos h]
  have e1 := encL_take l d
  have e2 := encL_drop l (d + 1)
  rw [show El.sz Int = 1 from rfl, Nat.mul_one] at e1 e2
  rw [e, ← encL_append, List.take_append, List.drop_append, hp, List.take_of_length_le (by omega), List.drop_eq_nil_of_le (by simp; omega)]
  rw [show 5 + d - 5 = d by omega, e1, show 5 + d + [PV.int IntKind.i64 v].length - 5 = d + 1 by simp; omega, e2]
  simp [encL_cons]
theorem moreK_all (c : Cal) : moreK c.Decrees = (moreA c).l := rfl
theorem scal_ints (l : List Int) : (encL l).all PV.scal = true := by
  induction l with
  | nil => rfl
  | cons x l ih =>
    have e : encL (x :: l) = .int .i64 x :: encL l := rfl
    rw [e, List.all_cons, ih]; rfl
theorem scal_int (k : IntKind) (n : Int) : PV.scal (.int k n) = true := rfl
theorem scal_lst (ex : Bool) (n e : Nat) (cs : List PV) : PV.scal (.lst ex n e cs) = true := rfl
def zeroK : K := ⟨⟨0, 0, 0, 0, []⟩, none10⟩
def OpenR (c : Cal) : K × Int := if okC c then (kOf c, 0) else (zeroK, 10)
abbrev z15 : List PV := [.int .i64 0, .int .i64 0, .int .i64 0, .int .i64 0, .nilS, .int .i64 0, .int .i64 0, .int .i64 0, .int .i64 0, .int .i64 0, .int .i64 0, .int .i64 0, .int .i64 0, .int .i64 0, .int .i64 0]
abbrev kcl (c : Cal) (l : List Int) : VObj := .cells (enc c.Hours :: enc c.Minutes :: enc c.Seconds :: enc c.Days :: enc c.Decrees :: encL l)
set_option maxHeartbeats 1600000 in
set_option maxRecDepth 20000 in
theorem w_opened (hE : E.env.fn = G) : Ok E 63 (s1 fun c => some (OpenR c)) := by
  refine ok1 fun c r hr => ?_
  cases hr
  refine VP.bound fun hb => ?_
  simp [enc_list] at hb
  have good := goodV_cons (w_CheckP hE) (goodV_cons (w_none hE) goodV_nil)
  cases ho : okC c
  · have hck : checkR c = 10 := by unfold checkR; rw [ho]; rfl
    have hO : OpenR c = (zeroK, 10) := by unfold OpenR; rw [ho]; rfl
    rw [hO]
    refine VP.run (A := F63) (good) [] (by rw [hE]; rfl) (by simp [F63]) ?_; unfold F63; simp (implicitDefEqProofs := false) [enc_list, hck, spliceV, zeroK, none10, enc_Cat, cells_Arr, encL_cons]
    done
  · have hck : checkR c = 0 := by unfold checkR; rw [ho]; rfl
    have hO : OpenR c = (kOf c, 0) := by unfold OpenR; rw [ho]; rfl
    rw [hO]
    have o := okC_ok ho
    have d2 := o.d2
    obtain ⟨hsort, hin⟩ := climb_sorted _ _ _ o.cl
    refine VP.run (A := F63) (good) [] (by rw [hE]; rfl) (by simp [F63]) ?_; unfold F63; simp (implicitDefEqProofs := false) [enc_list, hck, spliceV, none10, enc_Arr, encL_cons]
    refine VW.loop_to 0 [(2, .ptr 1 15 0), (5, .ptr 2 15 0)] [clc c, .cells z15, kcl c (moreK c.Decrees)] (True) ?_ (fun hp f m hc => ?_)
    · obtain ⟨Inv, hI⟩ : ∃ Inv : Nat → List (Nat × PV) → VM → Prop, ∀ k f m, Inv k f m ↔ (f = [(2, .ptr 1 15 0), (5, .ptr 2 15 0), (18, enc c.Decrees), (19, .int .i64 c.Decrees.length), (20, .int .i64 k)] ∧ m = [clc c, .cells z15, kcl c (moreK (c.Decrees.take k))]) := ⟨_, fun _ _ _ => Iff.rfl⟩
      refine VW.loop_cut Inv c.Decrees.length ?_ ?_ ?_
      · exact ⟨_, _, (hI _ _ _).2 ⟨rfl, rfl⟩, ⟨3, [], by simp [enc_list,  moreK_nil, encL_cons], by simp, by simp, by simp (implicitDefEqProofs := false) [enc_list,  moreK_nil, encL_cons], by simp (implicitDefEqProofs := false) [enc_list,  moreK_nil, encL_cons]⟩⟩
      · intro k f m hk hi
        obtain ⟨rfl, rfl⟩ := (hI _ _ _).1 hi
        have w1 : IntKind.i64.wrap ((k : Int) + 1) = k + 1 := wrap64 (by omega) (by omega)
        have hx := hin _ (List.getElem_mem hk)
        have hz := take_zero hsort hk
        have hnext : c.Decrees.take k ++ [c.Decrees[k]] = c.Decrees.take (k + 1) := by rw [List.take_succ_eq_append_getElem hk]
        obtain ⟨d, hd⟩ : ∃ d : Nat, c.Decrees[k].Day = d := ⟨c.Decrees[k].Day.toNat, by omega⟩
        rw [hd] at hx hz
        have hset := moreK_set (c.Decrees.take k) c.Decrees[k] d hd hz
        rw [hnext] at hset
        have d1 : (d : Int) < 10 := by omega
        have hln := moreK_len (c.Decrees.take k)
        have hsp : ∀ (a b c' e g : PV) (v : Int), spliceV (a :: b :: c' :: e :: g :: encL (moreK (c.Decrees.take k))) (5 + d) [.int .i64 v] = a :: b :: c' :: e :: g :: encL ((moreK (c.Decrees.take k)).set d v) := fun a b c' e g v => splice_at [a, b, c', e, g] _ d v rfl (by omega)
        have hspl : spliceV [PV.int .i64 0, PV.bool false] 0 [PV.int .i64 c.Decrees[k].Day, PV.bool c.Decrees[k].Plus] = [PV.int .i64 c.Decrees[k].Day, PV.bool c.Decrees[k].Plus] := rfl
        have h14 : (5 + d ≤ 14) = True := by simp; omega
        by_cases hp : c.Decrees[k].Plus = true
        · rw [hp] at hset hspl
          rw [hd] at hspl
          simp only [if_true] at hset
          refine VW.run good [] ?_; simp (implicitDefEqProofs := false) [enc_list, hk, get_Decree c.Decrees k hk, hp, hd, d1, hln, hsp, hset, w1, hspl, h14]
          exact ⟨_, _, (hI _ _ _).2 ⟨rfl, rfl⟩, ⟨3, [], by simp [enc_list], by simp, by simp, by simp (implicitDefEqProofs := false) [enc_list], by simp (implicitDefEqProofs := false) [enc_list]⟩⟩
        · have hp : c.Decrees[k].Plus = false := by simpa using hp
          rw [hp] at hset hspl
          rw [hd] at hspl
          simp only [Bool.false_eq_true, if_false] at hset
          refine VW.run good [] ?_; simp (implicitDefEqProofs := false) [enc_list, hk, get_Decree c.Decrees k hk, hp, hd, d1, hln, hsp, hset, w1, hspl, h14]
          exact ⟨_, _, (hI _ _ _).2 ⟨rfl, rfl⟩, ⟨3, [], by simp [enc_list], by simp, by simp, by simp (implicitDefEqProofs := false) [enc_list], by simp (implicitDefEqProofs := false) [enc_list]⟩⟩
      · intro f m hi
        obtain ⟨rfl, rfl⟩ := (hI _ _ _).1 hi
        rw [List.take_length]
        refine VW.run good [] ?_; simp (implicitDefEqProofs := false) [enc_list]
        exact ⟨3, [], by simp [enc_list], by simp, by simp, by simp (implicitDefEqProofs := false) [enc_list], by simp (implicitDefEqProofs := false) [enc_list]⟩
    · have h10 := (moreA c).h
      have hd15 : ∀ (a b c' e g : PV), List.drop 15 (a :: b :: c' :: e :: g :: encL (moreA c).l) = [] := fun a b c' e g => List.drop_eq_nil_of_le (by simp [h10])
      simp (implicitDefEqProofs := false); refine .ofCut hc (VW.run good [] ?_); simp (implicitDefEqProofs := false) [enc_list, moreK_all, h10, take10, spliceV, enc_Cat, cells_Arr, kOf, fzL_ints, hd15, scal_ints, scal_int, scal_lst, -PV.scal, -List.all_eq_true]
      done
end Go.RS.DC

/- Walks: the program (5): lengths and the total told. -/
namespace Go.RS.DC
open Go Go.RS
open Go.RS.Enc (enc dec)
variable {E : VEnv}
theorem KOk_of {c : Cal} (ho : okC c = true) : KOk (kOf c) := ⟨ho, rfl⟩
theorem open_no {c : Cal} (ho : okC c = false) : OpenR c = (zeroK, 10) := by unfold OpenR; rw [ho]; rfl
theorem open_ok {c : Cal} (ho : okC c = true) : OpenR c = (kOf c, 0) := by unfold OpenR; rw [ho]; rfl
theorem enc_zeroK : enc zeroK = .agg [.int .i64 0, .int .i64 0, .int .i64 0, .int .i64 0, .lst false 0 2 [], .int .i64 0, .int .i64 0, .int .i64 0, .int .i64 0, .int .i64 0, .int .i64 0, .int .i64 0, .int .i64 0, .int .i64 0, .int .i64 0] := rfl
theorem enc_kOf2 (c : Cal) : enc (kOf c) = .agg (.int .i64 c.Hours :: .int .i64 c.Minutes :: .int .i64 c.Seconds :: .int .i64 c.Days :: .lst false c.Decrees.length 2 (encL c.Decrees) :: encL (moreA c).l) := rfl
theorem dec_K2 (c : Cal) : (dec (PV.agg (.int .i64 c.Hours :: .int .i64 c.Minutes :: .int .i64 c.Seconds :: .int .i64 c.Days :: .lst false c.Decrees.length 2 (encL c.Decrees) :: encL (moreA c).l)) : Option K) = some (kOf c) := dec_K c (moreA c)
set_option maxRecDepth 20000 in
theorem w_TotalP (hE : E.env.fn = G) : Ok E 33 (s1 fun c => some (TotalR c)) := by
  refine ok1 fun c r hr => ?_
  cases hr
  have good := goodV_cons (w_opened hE) (goodV_cons (w_totalP hE) goodV_nil)
  cases ho : okC c
  · refine VP.run (A := F33) (good) [] (by rw [hE]; rfl) (by simp [F33]) ?_; unfold F33; simp (implicitDefEqProofs := false) [enc_list, open_no ho, enc_zeroK, TotalR, ho, spliceV]
  · have h10 := (moreA c).h
    have hd15 : ∀ (a b c' e g : PV), List.drop 15 (a :: b :: c' :: e :: g :: encL (moreA c).l) = [] := fun a b c' e g => List.drop_eq_nil_of_le (by simp [h10])
    have h2 : totalPF (kOf c) = some (allR c) := if_pos (KOk_of ho)
    refine VP.run (A := F33) (good) [] (by rw [hE]; rfl) (by simp [F33]) ?_; unfold F33; simp (implicitDefEqProofs := false) [enc_list, open_ok ho, enc_kOf2, TotalR, ho, h2, h10, take10, hd15, dec_K2, spliceV, fzL_ints, encL_isF, scal_ints, scal_int, scal_lst, -PV.scal, -List.all_eq_true]
    done
end Go.RS.DC

/- Walks: the program (6): the reading. -/
namespace Go.RS.DC
open Go Go.RS
open Go.RS.Enc (enc dec)
variable {E : VEnv}
theorem spc_first (sp : Spec) (M : VM) (f : Nat) (a : PV) (as cap args : List PV) : spc sp M (.func f (a :: as) cap) args = none := rfl
theorem spc_cap (sp : Spec) (M : VM) (f : Nat) (a : PV) (as args : List PV) : spc sp M (.func f [] (a :: as)) args = none := rfl
abbrev fn81 : PV := .func 98 [] [.ptr 1 1 0, .ptr 0 15 0, .ptr 3 1 0]
abbrev m81 (c : Cal) (t : Int) : VM := [kcl c (moreA c).l, .cells [.int .i64 t], .cells [.int .i64 0, .int .i64 0, .int .i64 0, .int .i64 0], .cells [fn81]]
theorem vc_find (hE : E.env.fn = G) {c : Cal} (ho : okC c = true) {t : Int} (t1 : t < allR c) : ∀ (n d : Nat) {g : Bool} {ext : VM} {K : PV → VM → Prop}, g = false → ((d : Int) + n + 1 = c.Days) →
    (∀ ext', K (.int .i64 (dayL c t (n + 1) d)) (m81 c t ++ ext')) → VC E g fn81 [.int .i64 d] (m81 c t ++ ext) K := by
  have o := okC_ok ho
  have d1 := o.d1
  have d2 := o.d2
  have h10 := (moreA c).h
  have hd15 : ∀ (a b c' e g : PV), List.drop 15 (a :: b :: c' :: e :: g :: encL (moreA c).l) = [] := fun a b c' e g => List.drop_eq_nil_of_le (by simp [h10])
  have good := goodV_cons (w_until hE) goodV_nil
  intro n
  induction n with
  | zero =>
    intro d g ext K hg h1 hk
    subst hg
    have hk2 := hk ext
    have hlt : t < begR c (d + 1) := by
      have : allR c = begR c (d + 1) := by unfold allR; congr 1; omega
      omega
    rw [dayL, if_pos hlt] at hk2
    have w1 : IntKind.i64.wrap ((d : Int) + 1) = d + 1 := wrap64 (by omega) (by omega)
    have h2 : untilPF (kOf c) ((d : Int) + 1) = some (begR c (d + 1)) := if_pos ⟨KOk_of ho, by omega, by omega⟩
    refine VC.func (A := F98) (by rw [hE]; rfl) (by simp [F98]) ?_
    unfold F98
    refine VW.run good [] ?_
    simp (implicitDefEqProofs := false) [enc_list, w1, h2, hlt, h10, take10, hd15, dec_K2, fzL_ints, encL_isF]
    simpa using hk2
  | succ n ih =>
    intro d g ext K hg h1 hk
    subst hg
    have w1 : IntKind.i64.wrap ((d : Int) + 1) = d + 1 := wrap64 (by omega) (by omega)
    have h2 : untilPF (kOf c) ((d : Int) + 1) = some (begR c (d + 1)) := if_pos ⟨KOk_of ho, by omega, by omega⟩
    refine VC.func (A := F98) (by rw [hE]; rfl) (by simp [F98]) ?_
    unfold F98
    refine VW.run good [] ?_
    rw [dayL] at hk
    by_cases hlt : t < begR c (d + 1)
    · have hk2 := hk ext
      rw [if_pos hlt] at hk2
      simp (implicitDefEqProofs := false) [enc_list, w1, h2, hlt, h10, take10, hd15, dec_K2, fzL_ints, encL_isF]
      simpa using hk2
    · simp only [hlt, if_false] at hk
      simp (implicitDefEqProofs := false) [enc_list, w1, h2, hlt, h10, take10, hd15, dec_K2, fzL_ints, encL_isF, spc_cap]
      unfold VCo
      have := ih (d + 1) (g := false) (ext := ext) (K := K) rfl (by omega) hk
      refine VC.mono (by simpa using this) fun r m hx => ?_
      simp (implicitDefEqProofs := false) [enc_list]
      exact hx
theorem tdiv_nn {a b : Int} (h : 0 ≤ a) : a.tdiv b = a / b := Int.tdiv_eq_ediv_of_nonneg h
def hourF (k : K) (m : Int) : Option Int := if KOk k ∧ 0 ≤ m ∧ m ≤ 100000 then some (m / k.a.Minutes) else none
def minuteF (k : K) (m : Int) : Option Int := if KOk k ∧ 0 ≤ m ∧ m ≤ 100000 then some (m % k.a.Minutes) else none
theorem w_hour (hE : E.env.fn = G) : Ok E 132 (s2 hourF) := by
  refine ok2 fun k m r hr => ?_
  unfold hourF at hr
  split at hr
  · rename_i hk
    cases hr
    obtain ⟨⟨ho, hm⟩, m0, m1⟩ := hk
    obtain ⟨c, b⟩ := k
    obtain rfl : b = moreA c := Arr.ext hm
    have o := okC_ok ho
    have h1 := o.m1
    simp only at h1
    have h2 : c.Minutes ≠ 0 := by omega
    have h3 := Int.ediv_nonneg m0 (show 0 ≤ c.Minutes by omega)
    have h4 := Int.ediv_le_self c.Minutes m0
    have w1 : IntKind.i64.wrap (m / c.Minutes) = m / c.Minutes := wrap64 (by omega) (by omega)
    refine VP.run (A := F132) (goodV_nil) [] (by rw [hE]; rfl) (by simp [F132]) ?_; unfold F132; simp (implicitDefEqProofs := false) [enc_list, enc_Cat, cells_Arr, h2, tdiv_nn m0, w1]
  · cases hr
theorem w_minute (hE : E.env.fn = G) : Ok E 133 (s2 minuteF) := by
  refine ok2 fun k m r hr => ?_
  unfold minuteF at hr
  split at hr
  · rename_i hk
    cases hr
    obtain ⟨⟨ho, hm⟩, m0, m1⟩ := hk
    obtain ⟨c, b⟩ := k
    obtain rfl : b = moreA c := Arr.ext hm
    have o := okC_ok ho
    have h1 := o.m1
    simp only at h1
    have h2 : c.Minutes ≠ 0 := by omega
    have h3 := Int.emod_nonneg m h2
    have h4 := Int.emod_lt_of_pos m (show 0 < c.Minutes by omega)
    have h5 := o.m2
    simp only at h5
    have w0 : m.tmod c.Minutes = m % c.Minutes := Int.tmod_eq_emod_of_nonneg m0
    have w1 : IntKind.i64.wrap (m % c.Minutes) = m % c.Minutes := wrap64 (by omega) (by omega)
    refine VP.run (A := F133) (goodV_nil) [] (by rw [hE]; rfl) (by simp [F133]) ?_; unfold F133; simp (implicitDefEqProofs := false) [enc_list, enc_Cat, cells_Arr, h2, w0, w1]
  · cases hr
end Go.RS.DC

/- Walks: the program (7): the reading. -/
namespace Go.RS.DC
open Go Go.RS
open Go.RS.Enc (enc dec)
variable {E : VEnv}
abbrev f130v : Value := .func (.func 132) #[] #[]
abbrev f131v : Value := .func (.func 133) #[] #[]
def readPF (k : K) (t : Int) : Option Reading := if KOk k ∧ 0 ≤ t ∧ t < allR k.a then some (readR k.a t) else none
set_option maxRecDepth 20000 in
theorem w_readingP (hE : E.env.fn = G) (hgl : E.gl 1 = some [f130v, f131v]) : Ok E 80 (s2 readPF) := by
  refine ok2 fun k t r hr => ?_
  unfold readPF at hr
  split at hr
  · rename_i hk
    cases hr
    obtain ⟨hk, t0, t1⟩ := hk
    have hk' := hk
    obtain ⟨ho, hm⟩ := hk'
    obtain ⟨c, b⟩ := k
    obtain rfl : b = moreA c := Arr.ext hm
    change okC c = true at ho
    change t < allR c at t1
    have o := okC_ok ho
    have d1 := o.d1
    have d2 := o.d2
    have h10 := (moreA c).h
    have hd15 : ∀ (a b c' e g : PV), List.drop 15 (a :: b :: c' :: e :: g :: encL (moreA c).l) = [] := fun a b c' e g => List.drop_eq_nil_of_le (by simp [h10])
    obtain ⟨e1, e2, e3⟩ := dayR_spec o t0 t1
    have good := goodV_cons (w_until hE) (goodV_cons (w_minutes hE) (goodV_cons (w_hour hE) (goodV_cons (w_minute hE) goodV_nil)))
    refine VP.run (A := F80) (good) [] (by rw [hE]; rfl) (by simp [F80]) ?_; unfold F80; simp (implicitDefEqProofs := false) [enc_list, spliceV, enc_Cat, cells_Arr, spc_cap]
    unfold VCo
    have := vc_find hE ho t1 (c.Days.toNat - 1) 0 (g := false) (ext := []) (K := fun r m => r = .int .i64 (dayR c t) ∧ ∃ ext, m = m81 c t ++ ext) rfl (by omega) (fun ext => ⟨by unfold dayR; rw [show c.Days.toNat - 1 + 1 = c.Days.toNat by omega], ext, rfl⟩)
    refine VC.mono (show VC E false fn81 [.int .i64 0] (m81 c t) _ from by simpa using this) fun r m hx => ?_
    obtain ⟨rfl, ext, rfl⟩ := hx
    have h2 : untilPF (kOf c) (dayR c t) = some (begR c (dayR c t)) := if_pos ⟨KOk_of ho, by omega, by omega⟩
    have ab := allR_b o
    have m1 := o.m1
    have m2 := o.m2
    have s1 := o.s1
    have hm1 := o.hm1
    have hm2 := o.hm2
    have hl0 : 0 ≤ leftR c t := by unfold leftR; omega
    have hl1 : leftR c t < lenR c (dayR c t) := by unfold leftR; rw [begR] at e3; omega
    obtain ⟨g1, g2, g3, g4⟩ := min_split o hl0 hl1
    have lb := o.lb (dayR c t)
    have e4 := Int.mul_ediv_add_emod (leftR c t) c.Seconds
    have q1 : 0 ≤ leftR c t / c.Seconds := Int.ediv_nonneg hl0 (by omega)
    have q2 : leftR c t / c.Seconds ≤ leftR c t := Int.ediv_le_self _ hl0
    have q3 : (leftR c t).tdiv c.Seconds = leftR c t / c.Seconds := Int.tdiv_eq_ediv_of_nonneg hl0
    have q4 : 0 ≤ minR c (leftR c t) / c.Minutes := Int.ediv_nonneg g1 (by omega)
    have q5 : minR c (leftR c t) / c.Minutes ≤ minR c (leftR c t) := Int.ediv_le_self _ g1
    have q6 := Int.emod_nonneg (minR c (leftR c t)) (show c.Minutes ≠ 0 by omega)
    have q7 := Int.emod_lt_of_pos (minR c (leftR c t)) (show 0 < c.Minutes by omega)
    have q8 : (minR c (leftR c t)).tdiv c.Minutes = minR c (leftR c t) / c.Minutes := Int.tdiv_eq_ediv_of_nonneg g1
    have q9 : (minR c (leftR c t)).tmod c.Minutes = minR c (leftR c t) % c.Minutes := Int.tmod_eq_emod_of_nonneg g1
    have w0 : IntKind.i64.wrap (c.Hours * c.Minutes) = c.Hours * c.Minutes := wrap64 (by omega) (by omega)
    have w1 : IntKind.i64.wrap (c.Hours * c.Minutes - 1) = c.Hours * c.Minutes - 1 := wrap64 (by omega) (by omega)
    have w5 : IntKind.i64.wrap (leftR c t / c.Seconds) = leftR c t / c.Seconds := wrap64 (by omega) (by omega)
    have p0 : 0 ≤ minR c (leftR c t) * c.Seconds := Int.mul_nonneg g1 (by omega)
    have n1 : c.Minutes ≠ 0 := by omega
    have n2 : c.Seconds ≠ 0 := by omega
    have w6 : IntKind.i64.wrap (minR c (leftR c t) / c.Minutes) = minR c (leftR c t) / c.Minutes := wrap64 (by omega) (by omega)
    have w7 : IntKind.i64.wrap (minR c (leftR c t) % c.Minutes) = minR c (leftR c t) % c.Minutes := wrap64 (by omega) (by omega)
    have w8 : IntKind.i64.wrap (minR c (leftR c t) * c.Seconds) = minR c (leftR c t) * c.Seconds := wrap64 (by omega) (by omega)
    have w9 : IntKind.i64.wrap (leftR c t - minR c (leftR c t) * c.Seconds) = leftR c t - minR c (leftR c t) * c.Seconds := wrap64 (by omega) (by omega)
    have bg := begR_b o (dayR c t)
    have w10 : IntKind.i64.wrap (t - begR c (dayR c t)) = leftR c t := wrap64 (by omega) (by omega)
    have hmin : (if c.Hours * c.Minutes - 1 < leftR c t / c.Seconds then c.Hours * c.Minutes - 1 else leftR c t / c.Seconds) = minR c (leftR c t) := by
      unfold minR
      by_cases h : leftR c t / c.Seconds < c.Hours * c.Minutes - 1
      · rw [if_pos h, if_neg (by omega)]
      · rw [if_neg h]; split <;> omega
    have dd := o.dl
    have h3 : hourF (kOf c) (minR c (leftR c t)) = some (minR c (leftR c t) / c.Minutes) := if_pos ⟨KOk_of ho, by omega, by omega⟩
    have h4 : minuteF (kOf c) (minR c (leftR c t)) = some (minR c (leftR c t) % c.Minutes) := if_pos ⟨KOk_of ho, by omega, by omega⟩
    have hka : (kOf c).a = c := rfl
    have hpr : ∀ fr, (Opd.c (Value.pointer (some { block := 1, off := 0 }))).evV E fr = .lptr [.func 132 [] [], .func 133 [] []] := fun fr => by simp [Opd.evV, PV.ofV, hgl, PV.ofS]
    simp (implicitDefEqProofs := false) [enc_list, h2, h3, h4, h10, hka, hpr, take10, hd15, dec_K2, fzL_ints, encL_isF, w0, w1, w5, w8, w9, w10, n1, n2, q3, hmin, spliceV, readR]
    done
  · cases hr
end Go.RS.DC

/- Walks: the program (8): the reading told. -/
namespace Go.RS.DC
open Go Go.RS
open Go.RS.Enc (enc dec)
variable {E : VEnv}
end Go.RS.DC

/- Walks: the program (9): the tick of a reading. -/
namespace Go.RS.DC
open Go Go.RS
open Go.RS.Enc (enc dec)
variable {E : VEnv}
def inR (c : Cal) (r : Reading) : Bool := wi r.Day 0 (c.Days - 1) && wi r.Hour 0 (c.Hours - 1) && wi r.Minute 0 (c.Minutes - 1) && wi r.Second 0 c.Seconds
theorem valid_in {c : Cal} (o : CalOk c) {r : Reading} (h : validR c r = true) : inR c r = true := by
  simp only [validR, inR, Bool.and_eq_true, wi_iff] at h ⊢
  have mb := o.mb r.Day
  have : secsR c r.Day (minOf c r) ≤ c.Seconds + 1 := by unfold secsR; split <;> omega
  omega
def tickPF (k : K) (r : Reading) : Option (Int × Bool) := if KOk k then some (if inR k.a r then (tickR k.a r, validR k.a r) else (0, false)) else none
theorem valid_iff {c : Cal} (o : CalOk c) {r : Reading} (h : inR c r = true) : 0 ≤ tickR c r ∧ tickR c r ≤ 10000000 ∧ (validR c r = true ↔ tickR c r < allR c ∧ readR c (tickR c r) = r) := by
  have hin := h
  simp only [inR, Bool.and_eq_true, wi_iff] at h
  obtain ⟨⟨⟨⟨b1, b2⟩, ⟨b3, b4⟩⟩, ⟨b5, b6⟩⟩, b7, b8⟩ := h
  have h1 := o.h1
  have h2 := o.h2
  have m1 := o.m1
  have m2 := o.m2
  have s1 := o.s1
  have s2 := o.s2
  have dd := o.d2
  have g1 : 0 ≤ r.Hour * c.Minutes := Int.mul_nonneg b3 (by omega)
  have g2 : r.Hour * c.Minutes ≤ 24 * 60 := Int.mul_le_mul (by omega) (by omega) (by omega) (by omega)
  have bm : 0 ≤ minOf c r ∧ minOf c r ≤ 1600 := by unfold minOf; omega
  have g3 : 0 ≤ minOf c r * c.Seconds := Int.mul_nonneg bm.1 (by omega)
  have g4 : minOf c r * c.Seconds ≤ 1600 * 60 := Int.mul_le_mul (by omega) (by omega) (by omega) (by omega)
  have bb := begR_b o r.Day.toNat
  have t0 : 0 ≤ tickR c r ∧ tickR c r ≤ 10000000 := by unfold tickR; omega
  refine ⟨t0.1, t0.2, fun hv => ⟨(tick_read o hv).2.1, (tick_read o hv).2.2⟩, fun hx => ?_⟩
  have := (read_valid o t0.1 hx.1).1
  rwa [hx.2] at this
set_option maxHeartbeats 1600000 in
set_option maxRecDepth 20000 in
theorem w_tickP (hE : E.env.fn = G) (hgl : E.gl 1 = some [f130v, f131v]) : Ok E 82 (s2 tickPF) := by
  refine ok2 fun k r a hr => ?_
  unfold tickPF at hr
  split at hr
  · rename_i hk
    cases hr
    have hk' := hk
    obtain ⟨ho, hm⟩ := hk'
    obtain ⟨c, b⟩ := k
    obtain rfl : b = moreA c := Arr.ext hm
    change okC c = true at ho
    have o := okC_ok ho
    have d1 := o.d1
    have d2 := o.d2
    have h1 := o.h1
    have h2 := o.h2
    have m1 := o.m1
    have m2 := o.m2
    have s1 := o.s1
    have s2 := o.s2
    have w1 : IntKind.i64.wrap (c.Days - 1) = c.Days - 1 := wrap64 (by omega) (by omega)
    have w2 : IntKind.i64.wrap (c.Hours - 1) = c.Hours - 1 := wrap64 (by omega) (by omega)
    have w3 : IntKind.i64.wrap (c.Minutes - 1) = c.Minutes - 1 := wrap64 (by omega) (by omega)
    have h10 := (moreA c).h
    have hd15 : ∀ (a b c' e g : PV), List.drop 15 (a :: b :: c' :: e :: g :: encL (moreA c).l) = [] := fun a b c' e g => List.drop_eq_nil_of_le (by simp [h10])
    have good := goodV_cons (w_until hE) (goodV_cons (w_totalP hE) (goodV_cons (w_within hE) (goodV_cons (w_readingP hE hgl) goodV_nil)))
    have htot : totalPF (kOf c) = some (allR c) := if_pos (KOk_of ho)
    change VP E 82 [enc (⟨c, moreA c⟩ : K), enc r] (enc (if inR c r then (tickR c r, validR c r) else (0, false)))
    refine VP.run (A := F82) (good) [] (by rw [hE]; rfl) (by simp [F82]) ?_; unfold F82; simp (implicitDefEqProofs := false) [enc_list, enc_Cat, cells_Arr, w1, w2, w3]
    cases hd : wi r.Day 0 (c.Days - 1)
    · have hi : inR c r = false := by unfold inR; rw [hd]; simp
      simp (implicitDefEqProofs := false) [enc_list, w1, w2, w3, hd, hi]
    · cases hh : wi r.Hour 0 (c.Hours - 1)
      · have hi : inR c r = false := by unfold inR; rw [hh]; simp
        simp (implicitDefEqProofs := false) [enc_list, w1, w2, w3, hd, hh, hi]
      · cases hmi : wi r.Minute 0 (c.Minutes - 1)
        · have hi : inR c r = false := by unfold inR; rw [hmi]; simp
          simp (implicitDefEqProofs := false) [enc_list, w1, w2, w3, hd, hh, hmi, hi]
        · cases hs : wi r.Second 0 c.Seconds
          · have hi : inR c r = false := by unfold inR; rw [hs]; simp
            simp (implicitDefEqProofs := false) [enc_list, w1, w2, w3, hd, hh, hmi, hs, hi]
          · have hi : inR c r = true := by unfold inR; rw [hd, hh, hmi, hs]; rfl
            obtain ⟨t0, tb, hv⟩ := valid_iff o hi
            obtain ⟨b1, b2⟩ := (wi_iff _ _ _).1 hd
            obtain ⟨b3, b4⟩ := (wi_iff _ _ _).1 hh
            obtain ⟨b5, b6⟩ := (wi_iff _ _ _).1 hmi
            obtain ⟨b7, b8⟩ := (wi_iff _ _ _).1 hs
            have g1 : 0 ≤ r.Hour * c.Minutes := Int.mul_nonneg b3 (by omega)
            have g2 : r.Hour * c.Minutes ≤ 24 * 60 := Int.mul_le_mul (by omega) (by omega) (by omega) (by omega)
            have bm : 0 ≤ minOf c r ∧ minOf c r ≤ 1600 := by unfold minOf; omega
            have g3 : 0 ≤ minOf c r * c.Seconds := Int.mul_nonneg bm.1 (by omega)
            have g4 : minOf c r * c.Seconds ≤ 1600 * 60 := Int.mul_le_mul (by omega) (by omega) (by omega) (by omega)
            have bb := begR_b o r.Day.toNat
            have v0 : untilPF (kOf c) r.Day = some (begR c r.Day.toNat) := if_pos ⟨KOk_of ho, by omega, by omega⟩
            have v1 : IntKind.i64.wrap (r.Hour * c.Minutes) = r.Hour * c.Minutes := wrap64 (by omega) (by omega)
            have v2 : IntKind.i64.wrap (r.Hour * c.Minutes + r.Minute) = minOf c r := wrap64 (by omega) (by omega)
            have v3 : IntKind.i64.wrap (minOf c r * c.Seconds) = minOf c r * c.Seconds := wrap64 (by omega) (by omega)
            have v4 : IntKind.i64.wrap (begR c r.Day.toNat + minOf c r * c.Seconds) = begR c r.Day.toNat + minOf c r * c.Seconds := wrap64 (by omega) (by omega)
            have v5 : IntKind.i64.wrap (begR c r.Day.toNat + minOf c r * c.Seconds + r.Second) = tickR c r := wrap64 (by omega) (by omega)
            generalize hX : tickR c r = X at *
            simp (implicitDefEqProofs := false) [enc_list, w1, w2, w3, hd, hh, hmi, hs, v0, v1, v2, v3, v4, v5, h10, take10, hd15, dec_K2, fzL_ints, encL_isF]
            unfold VCo
            refine VC.func (A := F100) (by rw [hE]; rfl) (by simp [F100]) ?_
            unfold F100
            refine VW.run good [] ?_
            have hsc : ∀ (a b c' e g : PV), (a :: b :: c' :: e :: g :: encL (moreA c).l).length = 15 := fun a b c' e g => by simp [h10]
            have hd14 : ∀ (a b c' e : PV), List.drop 14 (encL (moreA c).l ++ [a, b, c', e]) = [] := fun a b c' e => List.drop_eq_nil_of_le (by simp [h10])
            have ht10 : ∀ (a b c' e : PV), List.take 10 (encL (moreA c).l ++ [a, b, c', e]) = encL (moreA c).l := fun a b c' e => by rw [List.take_append_of_le_length (by simp [h10]), take10]
            have hd10 : ∀ (a b c' e : PV), List.drop 10 (encL (moreA c).l ++ [a, b, c', e]) = [a, b, c', e] := fun a b c' e => by rw [List.drop_append, List.drop_eq_nil_of_le (by simp [h10])]; simp [h10]
            by_cases hlt : X < allR c
            · have hr : readPF (kOf c) X = some (readR c X) := if_pos ⟨KOk_of ho, t0, hlt⟩
              simp (implicitDefEqProofs := false) [enc_list, h10, take10, hd15, hd14, dec_K2, fzL_ints, encL_isF, spliceV, htot, hlt, spc_first, scal_ints, scal_int, scal_lst, -PV.scal, -List.all_eq_true]
              unfold VCo
              refine VC.func (A := F108) (by rw [hE]; rfl) (by simp [F108]) ?_
              unfold F108
              refine VW.run good [] ?_
              simp (implicitDefEqProofs := false) [enc_list, h10, take10, hd15, hd14, ht10, hd10, hr, dec_K2, fzL_ints, encL_isF, spliceV, scal_ints, scal_int, scal_lst, -PV.scal, -List.all_eq_true]
              have hvd : validR c r = decide (readR c X = r) := by
                rw [Bool.eq_iff_iff, hv]; simp [hlt]
              rw [beq_Reading, hi, if_pos rfl, hvd]
              simp
            · have hvn : validR c r = false := by
                cases hvv : validR c r
                · rfl
                · exact absurd ((hv.1 hvv).1) hlt
              simp (implicitDefEqProofs := false) [enc_list, h10, take10, hd15, hd14, dec_K2, fzL_ints, encL_isF, spliceV, htot, hlt, hi, hvn, scal_ints, scal_int, scal_lst, -PV.scal, -List.all_eq_true]
  · cases hr
end Go.RS.DC

/- Walks: the program (10): the tick told. -/
namespace Go.RS.DC
open Go Go.RS
open Go.RS.Enc (enc dec)
variable {E : VEnv}
end Go.RS.DC

/- Walks: the program (11): apart; towns. -/
namespace Go.RS.DC
open Go Go.RS
open Go.RS.Enc (enc dec)
variable {E : VEnv}
end Go.RS.DC

/- Walks: the program (12): towns checked. -/
namespace Go.RS.DC
open Go Go.RS
open Go.RS.Enc (enc dec)
variable {E : VEnv}
set_option maxHeartbeats 1600000 in
set_option maxRecDepth 20000 in
theorem w_CheckTownP (hE : E.env.fn = G) : Ok E 34 (s2 fun c t => some (CheckTownR c t)) := by
  refine ok2 fun c t r hr => ?_
  cases hr
  refine VP.bound fun hb => ?_
  simp [enc_list] at hb
  have good := goodV_cons (w_opened hE) (goodV_cons (w_totalP hE) (goodV_cons (w_within hE) goodV_nil))
  cases ho : okC c
  · refine VP.run (A := F34) (good) [] (by rw [hE]; rfl) (by simp [F34]) ?_; unfold F34; simp (implicitDefEqProofs := false) [enc_list, open_no ho, enc_zeroK, CheckTownR, ho, spliceV]
  · have o := okC_ok ho
    have ab := allR_b o
    have hck : CheckTownR c t = if okT c t = true then 0 else 12 := by unfold CheckTownR; rw [ho]; rfl
    have htot : totalPF (kOf c) = some (allR c) := if_pos (KOk_of ho)
    have h10 := (moreA c).h
    have hd15 : ∀ (a b c' e g : PV), List.drop 15 (a :: b :: c' :: e :: g :: encL (moreA c).l) = [] := fun a b c' e g => List.drop_eq_nil_of_le (by simp [h10])
    have wa : IntKind.i64.wrap (allR c - 1) = allR c - 1 := wrap64 (by omega) (by omega)
    generalize hT : okT c t = T at hck
    refine VP.func (A := F34) (by rw [hE]; rfl) (by simp [F34]) ?_; unfold F34
    refine VW.seq (VW.run good [] ?_); simp (implicitDefEqProofs := false) [enc_list]
    refine VW.seq (VW.run good [] ?_); simp (implicitDefEqProofs := false) [enc_list, open_ok ho, enc_kOf2, h10, take10, hd15, spliceV, fzL_ints, scal_ints, scal_int, scal_lst, -PV.scal, -List.all_eq_true]
    refine VW.seq_cut [(2, .ptr 0 5 0), (3, .ptr 1 2 0), (5, .ptr 2 15 0)] [clc c, .cells [enc t.Ahead, enc t.Changes], kcl c (moreA c).l] (VW.run good [] ?_) ?_; simp (implicitDefEqProofs := false) [enc_list]
    · exact ⟨3, [], by simp [enc_list], by simp, by simp, by simp (implicitDefEqProofs := false) [enc_list], by simp (implicitDefEqProofs := false) [enc_list]⟩
    refine VW.seq_cut [(2, .ptr 0 5 0), (3, .ptr 1 2 0), (5, .ptr 2 15 0), (7, .bool (wi t.Ahead (-1440) 1440 && decide (t.Changes.length ≤ 6)))] [clc c, .cells [enc t.Ahead, enc t.Changes], kcl c (moreA c).l] (VW.run good [] ?_) ?_; simp (implicitDefEqProofs := false) [enc_list]
    · have h6 : ((t.Changes.length : Int) ≤ 6) = (t.Changes.length ≤ 6) := by apply propext; omega
      cases h1 : wi t.Ahead (-1440) 1440
      · simp (implicitDefEqProofs := false) [enc_list, h1]
        exact ⟨3, [], by simp [enc_list], by simp, by simp, by simp (implicitDefEqProofs := false) [enc_list], by simp (implicitDefEqProofs := false) [enc_list]⟩
      · simp (implicitDefEqProofs := false) [enc_list, h1]
        exact ⟨3, [], by simp [enc_list,  h6], by simp, by simp, by simp (implicitDefEqProofs := false) [enc_list,  h6], by simp (implicitDefEqProofs := false) [enc_list,  h6]⟩
    refine VW.run good [] ?_; simp (implicitDefEqProofs := false) [enc_list]
    refine VW.loop_to 0 [(7, .bool T)] [] (True) ?_ (fun hp f m hc => ?_)
    · obtain ⟨Inv, hI⟩ : ∃ Inv : Nat → List (Nat × PV) → VM → Prop, ∀ k f m, Inv k f m ↔ (∃ (s : Bool) (last : Int), f = [(2, .ptr 0 5 0), (3, .ptr 1 2 0), (5, .ptr 2 15 0), (7, .bool s), (8, .int .i64 last), (29, enc t.Changes), (30, .int .i64 t.Changes.length), (31, .int .i64 k)] ∧ m = [clc c, .cells [enc t.Ahead, enc t.Changes], kcl c (moreA c).l] ∧ T = (s && chgOk (allR c) last (t.Changes.drop k)) ∧ (s = true → 0 ≤ last ∧ last ≤ 1000000)) := ⟨_, fun _ _ _ => Iff.rfl⟩
      refine VW.loop_cut Inv t.Changes.length ?_ ?_ ?_
      · exact ⟨_, _, (hI _ _ _).2 ⟨_, 0, rfl, rfl, by rw [← hT]; rfl, fun _ => ⟨by omega, by omega⟩⟩, ⟨3, [], by simp [enc_list], by simp, by simp, by simp (implicitDefEqProofs := false) [enc_list], by simp (implicitDefEqProofs := false) [enc_list]⟩⟩
      · intro k f m hk hi
        obtain ⟨s, last, rfl, rfl, hs, h0⟩ := (hI _ _ _).1 hi
        have w1 : IntKind.i64.wrap ((k : Int) + 1) = k + 1 := wrap64 (by omega) (by omega)
        rw [List.drop_eq_getElem_cons hk, chgOk] at hs
        cases s
        · rw [Bool.false_and] at hs
          refine VW.run good [] ?_; simp (implicitDefEqProofs := false) [enc_list, hk, get_Change t.Changes k hk, w1, spliceV]
          exact ⟨_, _, (hI _ _ _).2 ⟨false, t.Changes[k].Tick, rfl, rfl, by rw [hs]; rfl, fun hx => by cases hx⟩, ⟨3, [], by simp [enc_list], by simp, by simp, by simp (implicitDefEqProofs := false) [enc_list], by simp (implicitDefEqProofs := false) [enc_list]⟩⟩
        · obtain ⟨h0, h00⟩ := h0 rfl
          rw [Bool.true_and] at hs
          have wl : IntKind.i64.wrap (last + 1) = last + 1 := wrap64 (by omega) (by omega)
          cases h2 : wi t.Changes[k].Tick (last + 1) (allR c - 1)
          · rw [h2, Bool.false_and, Bool.false_and] at hs
            refine VW.run good [] ?_; simp (implicitDefEqProofs := false) [enc_list, hk, get_Change t.Changes k hk, w1, wl, wa, h2, htot, h10, take10, hd15, dec_K2, fzL_ints, encL_isF, spliceV]
            exact ⟨_, _, (hI _ _ _).2 ⟨false, t.Changes[k].Tick, rfl, rfl, by rw [hs]; rfl, fun hx => by cases hx⟩, ⟨3, [], by simp [enc_list], by simp, by simp, by simp (implicitDefEqProofs := false) [enc_list], by simp (implicitDefEqProofs := false) [enc_list]⟩⟩
          · obtain ⟨g1, g2⟩ := (wi_iff _ _ _).1 h2
            rw [h2, Bool.true_and] at hs
            refine VW.run good [] ?_; simp (implicitDefEqProofs := false) [enc_list, hk, get_Change t.Changes k hk, w1, wl, wa, h2, htot, h10, take10, hd15, dec_K2, fzL_ints, encL_isF, spliceV]
            exact ⟨_, _, (hI _ _ _).2 ⟨wi t.Changes[k].Ahead (-1440) 1440, t.Changes[k].Tick, rfl, rfl, hs, fun _ => ⟨by omega, by omega⟩⟩, ⟨3, [], by simp [enc_list], by simp, by simp, by simp (implicitDefEqProofs := false) [enc_list], by simp (implicitDefEqProofs := false) [enc_list]⟩⟩
      · intro f m hi
        obtain ⟨s, last, rfl, rfl, hs, h0⟩ := (hI _ _ _).1 hi
        rw [List.drop_length, chgOk, Bool.and_true] at hs
        subst hs
        refine VW.run good [] ?_; simp (implicitDefEqProofs := false) [enc_list]
        exact ⟨0, [], by simp [enc_list], by simp, by simp, by simp (implicitDefEqProofs := false) [enc_list], by simp (implicitDefEqProofs := false) [enc_list]⟩
    · simp (implicitDefEqProofs := false); refine .ofCut hc (VW.run good [] ?_); simp (implicitDefEqProofs := false) [enc_list]
      cases T <;> simp (implicitDefEqProofs := false) [enc_list, hck]
end Go.RS.DC

