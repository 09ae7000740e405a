/- Walks: the library: a number in a list; a short list sorted. -/
import Derived.Test.YtmlogniaahnamaaDoorDxb
import Derived.Test.YtmlogniaahnamaaDoorDpa
import Derived.Test.YtmlogniaahnamaaDoorPvc
set_option linter.all false
namespace Go.RS.DC
open Go Go.RS
open Go.RS.Enc (enc dec)
variable {E : VEnv}
theorem findR_some (n : Int) : ∀ (l : List Int) (k : Nat), (findR n k l = -1 ∧ l.contains n = false) ∨ (0 ≤ findR n k l ∧ l.contains n = true)
  | [], k => .inl ⟨rfl, rfl⟩
  | x :: l, k => by
    rw [findR]
    by_cases h : x = n
    · rw [if_pos h]; right; subst h; exact ⟨by omega, by simp⟩
    · rw [if_neg h]
      have e : (x :: l).contains n = l.contains n := by
        rw [List.contains_cons]
        have : (n == x) = false := by simp; exact fun e => h e.symm
        rw [this, Bool.false_or]
      rw [e]; exact findR_some n l (k + 1)
theorem w_Index (hE : E.env.fn = G) : Ok E 101 (s2 fun l n => some (findR n 0 l)) := by
  refine ok2 fun l n r hr => ?_
  cases hr
  refine VP.bound fun hb => ?_
  simp [enc_list] at hb
  generalize hT : findR n 0 l = T
  refine VP.run (A := F101) (goodV_nil) [] (by rw [hE]; rfl) (by simp [F101]) ?_; unfold F101; simp (implicitDefEqProofs := false) [enc_list]
  refine VW.loop_to 0 [] [] (T = -1) ?_ (fun hp f m hc => ?_)
  · obtain ⟨Inv, hI⟩ : ∃ Inv : Nat → List (Nat × PV) → VM → Prop, ∀ k f m, Inv k f m ↔ (f = [(0, enc l), (1, .int .i64 n), (6, enc l), (7, .int .i64 l.length), (8, .int .i64 k)] ∧ m = [] ∧ T = findR n k (l.drop k)) := ⟨_, fun _ _ _ => Iff.rfl⟩
    refine VW.loop_cut Inv l.length ?_ ?_ ?_
    · exact ⟨_, _, (hI _ _ _).2 ⟨rfl, rfl, hT.symm⟩, ⟨0, [], by simp [enc_list], by simp, by simp, by simp (implicitDefEqProofs := false) [enc_list], by simp (implicitDefEqProofs := false) [enc_list]⟩⟩
    · intro k f m hk hi
      obtain ⟨rfl, rfl, hs⟩ := (hI _ _ _).1 hi
      have w1 : IntKind.i64.wrap ((k : Int) + 1) = k + 1 := wrap64 (by omega) (by omega)
      rw [List.drop_eq_getElem_cons hk, findR] at hs
      by_cases hw : l[k] = n
      · rw [if_pos hw] at hs
        refine VW.run goodV_nil [] ?_; simp (implicitDefEqProofs := false) [enc_list, hk, get_Int l k hk, w1, hw, hs]
      · rw [if_neg hw] at hs
        have hw' : ¬ n = l[k] := fun e => hw e.symm
        refine VW.run goodV_nil [] ?_; simp (implicitDefEqProofs := false) [enc_list, hk, get_Int l k hk, w1, hw']
        exact ⟨_, _, (hI _ _ _).2 ⟨rfl, rfl, hs⟩, ⟨0, [], by simp [enc_list], by simp, by simp, by simp (implicitDefEqProofs := false) [enc_list], by simp (implicitDefEqProofs := false) [enc_list]⟩⟩
    · intro f m hi
      obtain ⟨rfl, rfl, hs⟩ := (hI _ _ _).1 hi
      rw [List.drop_length, findR] at hs
      refine VW.run goodV_nil [] ?_; simp (implicitDefEqProofs := false) [enc_list]
      exact ⟨hs, ⟨0, [], by simp [enc_list], by simp, by simp, by simp (implicitDefEqProofs := false) [enc_list], by simp (implicitDefEqProofs := false) [enc_list]⟩⟩
  · simp (implicitDefEqProofs := false); refine .ofCut hc (VW.run goodV_nil [] ?_); simp (implicitDefEqProofs := false) [enc_list, hp]
theorem w_Contains (hE : E.env.fn = G) : Ok E 83 (s2 fun (l : List Int) (n : Int) => some (decide (0 ≤ findR n 0 l))) := by
  refine ok2 fun l n r hr => ?_
  cases hr
  have good := goodV_cons (w_Index hE) goodV_nil
  refine VP.run (A := F83) (good) [] (by rw [hE]; rfl) (by simp [F83]) ?_; unfold F83; simp (implicitDefEqProofs := false) [enc_list]
end Go.RS.DC

/- Walks: the library: a short list sorted, by insertion. -/
namespace Go.RS.DC
open Go Go.RS
open Go.RS.Enc (enc dec)
variable {E : VEnv}
theorem w_isNaN (hE : E.env.fn = G) : Ok E 107 (s1 fun (n : Int) => some false) := by
  refine ok1 fun n r hr => ?_
  cases hr
  refine VP.run (A := F107) (goodV_nil) [] (by rw [hE]; rfl) (by simp [F107]) ?_; unfold F107; simp (implicitDefEqProofs := false) [enc_list]
theorem w_Less (hE : E.env.fn = G) : Ok E 90 (s2 fun (a b : Int) => some (decide (a < b))) := by
  refine ok2 fun a b r hr => ?_
  cases hr
  have good := goodV_cons (w_isNaN hE) goodV_nil
  refine VP.run (A := F90) (good) [] (by rw [hE]; rfl) (by simp [F90]) ?_; unfold F90; simp (implicitDefEqProofs := false) [enc_list]
theorem vec_und (l : List Int) (n : Nat) : (VObj.vec (encL l)).und n := by simp (implicitDefEqProofs := false)
theorem swap_list (A B : List Int) (y x : Int) : ((A ++ y :: x :: B).set (A.length + 1) y).set A.length x = A ++ x :: y :: B := by
  rw [List.set_append_right _ _ (by omega), show A.length + 1 - A.length = 1 by omega, List.set_append_right _ _ (by omega), Nat.sub_self]
  rfl
theorem swap_perm (A B : List Int) (y x : Int) : (A ++ x :: y :: B).Perm (A ++ y :: x :: B) := (List.Perm.swap y x B).append_left A
abbrev slN (t n : Nat) : PV := .sl t n 0 n (openCap + 1) 1
set_option maxHeartbeats 1600000 in
theorem vc_insort (hE : E.env.fn = G) {g : Bool} {M : VM} {t : Nat} {l : List Int} {K : PV → VM → Prop} (hg : g = false) (hM : M[t]? = some (.vec (encL l))) (hn : l.length ≤ 1000) (hu : ∀ o ∈ M, o.und M.length)
    (hk : ∀ l' : List Int, l'.Perm l → l'.Pairwise (· ≤ ·) → K (.tup []) (M.set t (.vec (encL l')))) : VC E g (.func 84 [] []) [slN t l.length, .int .i64 0, .int .i64 l.length] M K := by
  subst hg
  have htl : t < M.length := (List.getElem?_eq_some_iff.1 hM).1
  have good := goodV_cons (w_Less hE) goodV_nil
  refine VC.func (A := F84) (by rw [hE]; rfl) (by simp [F84]) ?_
  unfold F84
  refine VW.run good [] ?_
  obtain ⟨n, hln⟩ : ∃ n, l.length = n := ⟨_, rfl⟩
  rw [hln] at hn ⊢
  have w01 : IntKind.i64.wrap 1 = 1 := by decide
  simp (implicitDefEqProofs := false) [enc_list, w01]
  have hund : ∀ l' : List Int, ∀ o ∈ M.set t (.vec (encL l')), o.und M.length := fun l' => set_und hu (vec_und l' _)
  have hml : ∀ l' : List Int, (M.set t (.vec (encL l'))).length = M.length := fun l' => by simp
  have hget : ∀ l' : List Int, (M.set t (.vec (encL l')))[t]? = some (.vec (encL l')) := fun l' => by rw [List.getElem?_set_self htl]
  have hset : ∀ a b : List Int, (M.set t (.vec (encL a))).set t (.vec (encL b)) = M.set t (.vec (encL b)) := fun a b => by rw [List.set_set]
  have cutm : ∀ {f : VFr} {q : List (Nat × PV)} (l' : List Int), (∀ p ∈ q, (f p.1).le p.2 ∧ p.2.und M.length = true) → Cut M.length f (M.set t (.vec (encL l'))) q (M.set t (.vec (encL l'))) := fun l' hs =>
    cut_all (by rw [hml]; exact Nat.le_refl _) (by rw [hml]; exact hund l') (by rw [hml]; exact hs)
  have hM0 : M.set t (.vec (encL l)) = M := set_get_same hM
  obtain ⟨Inv, hI⟩ : ∃ Inv : Nat → List (Nat × PV) → VM → Prop, ∀ q f m, Inv q f m ↔ (∃ l' : List Int, f = [(0, slN t n), (1, .int .i64 0), (2, .int .i64 n), (6, .int .i64 (q + 1))] ∧ m = M.set t (.vec (encL l')) ∧ l'.Perm l ∧ (l'.take (q + 1)).Pairwise (· ≤ ·)) := ⟨_, fun _ _ _ => Iff.rfl⟩
  refine VW.loop_cut Inv (n - 1) ?_ ?_ ?_
  · refine ⟨_, _, (hI _ _ _).2 ⟨l, rfl, rfl, .refl _, ?_⟩, ?_⟩
    · cases l <;> simp
    · rw [hM0]
      exact cut_all (Nat.le_refl _) hu (by simp (implicitDefEqProofs := false) [htl])
  · intro q f m hq hv
    obtain ⟨l', rfl, rfl, hp, hs⟩ := (hI _ _ _).1 hv
    have hl' : l'.length = n := by rw [hp.length_eq, hln]
    have g1 : (q : Int) + 1 < n := by omega
    refine VW.seq (VW.run good [] ?_); simp (implicitDefEqProofs := false) [enc_list, g1]
    refine VW.seq (VW.block ?_)
    refine VW.run good [] ?_; simp (implicitDefEqProofs := false) [enc_list]
    refine VW.loop_toE 2 (fun (l'' : List Int) => [(0, slN t n), (1, .int .i64 0), (2, .int .i64 n), (6, .int .i64 (q + 1))]) (fun (l'' : List Int) => M.set t (.vec (encL l''))) (fun (l'' : List Int) => l''.Perm l ∧ (l''.take (q + 1 + 1)).Pairwise (· ≤ ·)) ?_ (fun l'' hp f m hc => ?_)
    · clear hI hv
      obtain ⟨Inv, hI⟩ : ∃ Inv : Nat → List (Nat × PV) → VM → Prop, ∀ p f m, Inv p f m ↔ (∃ (A B D : List Int) (x : Int), f = [(0, slN t n), (1, .int .i64 0), (2, .int .i64 n), (6, .int .i64 (q + 1)), (7, .int .i64 A.length)] ∧ m = M.set t (.vec (encL (A ++ x :: (B ++ D)))) ∧ (A ++ x :: (B ++ D)).Perm l ∧ A.length + p = q + 1 ∧ A.length + B.length = q + 1 ∧ (A ++ B).Pairwise (· ≤ ·) ∧ ∀ b ∈ B, x ≤ b) := ⟨_, fun _ _ _ => Iff.rfl⟩
      refine VW.loop_cut Inv (q + 1) ?_ ?_ ?_
      · have hq1 : q + 1 < l'.length := by omega
        have e : l' = l'.take (q + 1) ++ l'[q + 1] :: ([] ++ l'.drop (q + 2)) := by
          rw [List.nil_append, ← List.drop_eq_getElem_cons hq1, List.take_append_drop]
        have e1 : (l'.take (q + 1)).length = q + 1 := by rw [List.length_take]; omega
        refine ⟨_, _, (hI _ _ _).2 ⟨l'.take (q + 1), [], l'.drop (q + 2), l'[q + 1], rfl, rfl, by rw [← e]; exact hp, by omega, by rw [e1]; rfl, by rw [List.append_nil]; exact hs, by simp⟩, ?_⟩
        rw [← e, e1]
        exact cutm l' (by simp (implicitDefEqProofs := false) [htl])
      · intro p f m hpq hv
        obtain ⟨A, B, D, x, rfl, rfl, hperm, ha, hb, hsrt, hxb⟩ := (hI _ _ _).1 hv
        rcases List.eq_nil_or_concat A with h0 | ⟨A', y, h0⟩
        · rw [h0] at ha; simp at ha; omega
        have e0 : A ++ x :: (B ++ D) = A' ++ y :: x :: (B ++ D) := by rw [h0]; simp
        have e1 : A.length = A'.length + 1 := by rw [h0]; simp
        rw [e0] at hperm
        rw [e0, e1]
        obtain ⟨j, hj⟩ : ∃ j, A'.length = j := ⟨_, rfl⟩
        rw [hj]
        obtain ⟨L, hL⟩ : ∃ L, A' ++ y :: x :: (B ++ D) = L := ⟨_, rfl⟩
        have hLl : L.length = n := by rw [← hL, hperm.length_eq, hln]
        have j1 : j + 1 < L.length := by rw [← hL]; simp; omega
        have j0 : j < L.length := by omega
        have hLx : L[j + 1] = x := by subst hL; subst hj; rw [List.getElem_append_right (by omega)]; simp
        have hLy : L[j] = y := by subst hL; subst hj; rw [List.getElem_append_right (by omega)]; simp
        have hsw : (L.set (j + 1) y).set j x = A' ++ x :: (y :: B ++ D) := by rw [← hL, ← hj]; exact swap_list A' (B ++ D) y x
        rw [hL] at hperm ⊢
        have w1 : IntKind.i64.wrap (j : Int) = j := wrap64 (by omega) (by omega)
        have n1 : j + 1 < n := by omega
        have n0 : j < n := by omega
        have p0 : (0 : Int) ≤ j + 1 := by omega
        have p1 : (j : Int) + 1 < n := by omega
        have p2 : (0 : Int) ≤ j := by omega
        have p3 : (j : Int) < n := by omega
        have p4 : 0 < n := by omega
        have p5 : n ≠ 0 := by omega
        have p6 : (0 : Int) < (j : Int) + 1 := by omega
        have p8 : j + 1 + 1 ≤ n := by omega
        have p9 : j + 1 ≤ n := by omega
        have p7 : ((j : Int) + 1).toNat = j + 1 := by omega
        have s1 : spliceV (encL L) (j + 1) [PV.int .i64 y] = encL (L.set (j + 1) y) := splice_Int L (j + 1) y j1
        have s2 : spliceV (encL (L.set (j + 1) y)) j [PV.int .i64 x] = encL (A' ++ x :: (y :: B ++ D)) := by rw [splice_Int _ j x (by simpa using j0), hsw]
        by_cases hxy : x < y
        · refine VW.run good [] ?_; simp (implicitDefEqProofs := false) [enc_list, htl, hget, hset, hLl, w1, n1, n0, j0, j1, get_Int L (j + 1) j1, get_Int L j j0, hLx, hLy, hxy, s1, s2, p0, p1, p2, p3, p4, p5, p6, p7, p8, p9]
          refine ⟨_, _, (hI _ _ _).2 ⟨A', y :: B, D, x, rfl, rfl, (swap_perm A' (B ++ D) y x).trans (by rw [hL]; exact hperm), by omega, by simp; omega, ?_, ?_⟩, ?_⟩
          · rw [h0] at hsrt; simpa using hsrt
          · intro b hbm
            rcases List.mem_cons.1 hbm with rfl | hbm
            · omega
            · exact hxb b hbm
          · rw [hj]; exact cutm _ (by simp (implicitDefEqProofs := false) [htl])
        · refine VW.run good [] ?_; simp (implicitDefEqProofs := false) [enc_list, htl, hget, hset, hLl, w1, n1, n0, j0, j1, get_Int L (j + 1) j1, get_Int L j j0, hLx, hLy, hxy, p0, p1, p2, p3, p4, p5, p6, p7, p8, p9]
          refine ⟨L, ⟨hperm, ?_⟩, cutm L (by simp (implicitDefEqProofs := false) [htl])⟩
          have e : L.take (q + 1 + 1) = A' ++ y :: x :: B := by
            have e2 : (A' ++ y :: x :: B).length = q + 1 + 1 := by simp; omega
            have e3 : L = (A' ++ y :: x :: B) ++ D := by rw [← hL]; simp
            rw [e3, ← e2, List.take_left]
          rw [e]
          have hsrt : (A' ++ y :: B).Pairwise (· ≤ ·) := by rw [h0] at hsrt; simpa using hsrt
          rw [List.pairwise_append, List.pairwise_cons] at hsrt ⊢
          obtain ⟨s3, ⟨s4, s5⟩, s6⟩ := hsrt
          refine ⟨s3, ⟨fun b hbm => ?_, List.pairwise_cons.2 ⟨hxb, s5⟩⟩, fun a ham b hbm => ?_⟩
          · rcases List.mem_cons.1 hbm with rfl | hbm
            · omega
            · exact s4 b hbm
          · rcases List.mem_cons.1 hbm with rfl | hbm
            · exact s6 a ham _ (by simp)
            · rcases List.mem_cons.1 hbm with rfl | hbm
              · have := s6 a ham y (by simp); omega
              · exact s6 a ham b (by simp [hbm])
      · intro f m hv
        obtain ⟨A, B, D, x, rfl, rfl, hperm, ha, hb, hsrt, hxb⟩ := (hI _ _ _).1 hv
        have hA : A = [] := List.eq_nil_of_length_eq_zero (by omega)
        subst hA
        refine VW.run good [] ?_; simp (implicitDefEqProofs := false) [enc_list, htl, hget]
        refine ⟨x :: (B ++ D), ⟨hperm, ?_⟩, cutm _ (by simp (implicitDefEqProofs := false) [htl])⟩
        have : (x :: (B ++ D)).take (q + 1 + 1) = x :: B := by
          rw [List.take_succ_cons, List.take_append_of_le_length (by simp at hb; omega), List.take_of_length_le (by simp at hb; omega)]
        rw [this, List.pairwise_cons]
        exact ⟨hxb, by simpa using hsrt⟩
    · have w1 : IntKind.i64.wrap ((q : Int) + 1 + 1) = q + 1 + 1 := wrap64 (by omega) (by omega)
      simp (implicitDefEqProofs := false); refine .ofCut hc (VW.run good [] ?_); simp (implicitDefEqProofs := false) [enc_list, w1]
      refine ⟨_, _, (hI _ _ _).2 ⟨l'', rfl, rfl, hp.1, hp.2⟩, cutm l'' (by simp (implicitDefEqProofs := false) [htl])⟩
  · intro f m hv
    obtain ⟨l', rfl, rfl, hp, hs⟩ := (hI _ _ _).1 hv
    have hl' : l'.length = n := by rw [hp.length_eq, hln]
    have g1 : ¬ ((n - 1 : Nat) : Int) + 1 < n := by omega
    refine VW.run good [] ?_; simp (implicitDefEqProofs := false) [enc_list, g1]
    refine hk l' hp ?_
    rwa [List.take_of_length_le (by omega)] at hs
theorem bs_get (l : List Nat) (k : Nat) (h : k < l.length) : ∃ b, (bs l)[k]? = some b := by
  have hs : (bs l).size = l.length := by unfold bs ByteArray.size; simp
  exact ⟨(bs l)[k]'(by rw [hs]; exact h), getElem?_pos (bs l) k (by rw [hs]; exact h)⟩
set_option maxRecDepth 20000 in
/-- How many bits a small number has: some number. -/
theorem vc_len (hE : E.env.fn = G) {g : Bool} {M : VM} {n : Nat} {K : PV → VM → Prop} (hg : g = false) (hn : n ≤ 12) (hk : ∀ v : Int, K (.int .i64 v) M) : VC E g (.func 72 [] []) [.int .u64 n] M K := by
  subst hg
  have e0 : IntKind.u8.wrap (n : Int) = n := by
    have : n = 0 ∨ n = 1 ∨ n = 2 ∨ n = 3 ∨ n = 4 ∨ n = 5 ∨ n = 6 ∨ n = 7 ∨ n = 8 ∨ n = 9 ∨ n = 10 ∨ n = 11 ∨ n = 12 := by omega
    rcases this with h | h | h | h | h | h | h | h | h | h | h | h | h <;> subst h <;> decide
  have g1 : ¬ 4294967296 ≤ (n : Int) := by omega
  have g2 : ¬ 65536 ≤ (n : Int) := by omega
  have g3 : ¬ 256 ≤ (n : Int) := by omega
  refine VC.func (A := F72) (by rw [hE]; rfl) (by simp [F72]) ?_
  unfold F72
  refine VW.run goodV_nil [] ?_
  simp (implicitDefEqProofs := false) [enc_list]
  unfold VCo
  refine VC.func (A := F94) (by rw [hE]; rfl) (by simp [F94]) ?_
  unfold F94
  refine VW.run goodV_nil [] ?_
  simp (implicitDefEqProofs := false) [enc_list, e0, g1, g2, g3]
  generalize hT : (bs _)[n]? = o
  obtain ⟨b, rfl⟩ : ∃ b, o = some b := by
    rw [← hT]
    refine bs_get _ n ?_
    simp only [List.length_cons, List.length_nil]
    omega
  simp (implicitDefEqProofs := false) [enc_list]
  exact hk _
/-- A short own list sorted. -/
theorem vc_sort (hE : E.env.fn = G) {g : Bool} {M : VM} {t : Nat} {l : List Int} {K : PV → VM → Prop} (hg : g = false) (hM : M[t]? = some (.vec (encL l))) (hn : l.length ≤ 12) (hu : ∀ o ∈ M, o.und M.length)
    (hk : ∀ l' : List Int, l'.Perm l → l'.Pairwise (· ≤ ·) → K (.tup []) (M.set t (.vec (encL l')))) : VC E g (.func 53 [] []) [slN t l.length] M K := by
  subst hg
  have e0 : IntKind.u64.wrap (l.length : Int) = l.length := by
    generalize l.length = n at hn
    have : n = 0 ∨ n = 1 ∨ n = 2 ∨ n = 3 ∨ n = 4 ∨ n = 5 ∨ n = 6 ∨ n = 7 ∨ n = 8 ∨ n = 9 ∨ n = 10 ∨ n = 11 ∨ n = 12 := by omega
    rcases this with h | h | h | h | h | h | h | h | h | h | h | h | h <;> subst h <;> decide
  refine VC.func (A := F53) (by rw [hE]; rfl) (by simp [F53]) ?_
  unfold F53
  refine VW.run goodV_nil [] ?_
  simp (implicitDefEqProofs := false) [enc_list, e0]
  unfold VCo
  refine vc_len hE rfl hn fun v => ?_
  simp (implicitDefEqProofs := false) [enc_list]
  unfold VCo
  refine VC.func (A := F71) (by rw [hE]; rfl) (by simp [F71]) ?_
  unfold F71
  refine VW.run goodV_nil [] ?_
  simp (implicitDefEqProofs := false) [enc_list]
  refine VW.loop ?_
  have l12 : (l.length : Int) ≤ 12 := by omega
  have l64 : IntKind.i64.wrap (l.length : Int) = l.length := wrap64 (by omega) (by omega)
  refine VW.run goodV_nil [] ?_; simp (implicitDefEqProofs := false) [enc_list, l12, l64]
  unfold VCo
  refine vc_insort hE rfl hM (by omega) hu fun l' h1 h2 => ?_
  simp (implicitDefEqProofs := false) [enc_list]
  exact hk l' h1 h2
end Go.RS.DC

/- Walks: the program (22): all ticks of a local reading. -/
namespace Go.RS.DC
open Go Go.RS
open Go.RS.Enc (enc dec)
variable {E : VEnv}
abbrev rcl (r : Reading) : VObj := .cells [.int .i64 r.Day, .int .i64 r.Hour, .int .i64 r.Minute, .int .i64 r.Second]
abbrev vclT (c : Cal) (t : Town) : VObj := .cells (.int .i64 c.Hours :: .int .i64 c.Minutes :: .int .i64 c.Seconds :: .int .i64 c.Days :: .lst false c.Decrees.length 2 (encL c.Decrees) :: (encL (moreA c).l ++ [.int .i64 t.Ahead, .lst false t.Changes.length 2 (encL t.Changes)]))
def ticksPF (v : V) (r : Reading) : Option (List Int) := if KOk v.a ∧ okT v.a.a v.b = true then some (ticksR v.a.a v.b r) else none
def aheadK (t : Town) (k : Nat) : List Int := t.Ahead :: (t.Changes.take k).map (·.Ahead)
def inP (c : Cal) (r : Reading) : Bool := properR c r && wi r.Day (-2880) 2890
set_option maxHeartbeats 3200000 in
set_option maxRecDepth 20000 in
theorem w_ticksP (hE : E.env.fn = G) (hgl : E.gl 1 = some [f130v, f131v]) : Ok E 70 (s2 ticksPF) := by
  refine ok2 fun v r a hr => ?_
  unfold ticksPF at hr
  split at hr
  · rename_i hc
    cases hr
    obtain ⟨⟨ho, hm⟩, hto⟩ := hc
    obtain ⟨⟨c, b⟩, t⟩ := v
    obtain rfl : b = moreA c := Arr.ext hm
    change okC c = true at ho
    change okT c t = true at hto
    change VP E 70 [enc (vOf c t), enc r] (enc (ticksR c t r))
    have o := okC_ok ho
    have ot := okT_ok hto
    have h10 := (moreA c).h
    have h1 := o.h1
    have h2 := o.h2
    have m1 := o.m1
    have m2 := o.m2
    have w1 : IntKind.i64.wrap (c.Hours - 1) = c.Hours - 1 := wrap64 (by omega) (by omega)
    have w2 : IntKind.i64.wrap (c.Minutes - 1) = c.Minutes - 1 := wrap64 (by omega) (by omega)
    have good := goodV_cons (w_within hE) (goodV_cons (w_movedP hE) (goodV_cons (w_tickP hE hgl) (goodV_cons (w_localP hE hgl) (goodV_cons (w_Contains hE) goodV_nil))))
    refine VP.func (A := F70) (by rw [hE]; rfl) (by simp [F70]) ?_; unfold F70
    refine VW.seq_cut [(2, .ptr 0 17 0), (3, .ptr 1 4 0), (4, .nilS)] [vclT c t, rcl r] (VW.run good [] ?_) ?_; simp (implicitDefEqProofs := false) [enc_list, enc_vOf, h10]
    · exact ⟨2, [], by simp [enc_list,  h10], by simp, by simp, by simp (implicitDefEqProofs := false) [enc_list,  h10], by simp (implicitDefEqProofs := false) [enc_list,  h10]⟩
    cases hin : inP c r
    · have hnil : ticksR c t r = [] := by
        unfold inP at hin
        unfold ticksR
        rw [if_neg]
        simp only [Bool.and_eq_true, wi_iff]
        rintro ⟨g1, g2, g3⟩
        rw [g1, (wi_iff r.Day (-2880) 2890).2 ⟨by omega, by omega⟩] at hin
        cases hin
      unfold inP properR at hin
      rw [hnil]
      cases e1 : wi r.Hour 0 (c.Hours - 1)
      · refine VW.run good [] ?_; simp (implicitDefEqProofs := false) [enc_list, h10, w1, w2, e1]
      · cases e2 : wi r.Minute 0 (c.Minutes - 1)
        · refine VW.run good [] ?_; simp (implicitDefEqProofs := false) [enc_list, h10, w1, w2, e1, e2]
        · have e3 : wi r.Day (-2880) 2890 = false := by rw [e1, e2] at hin; simpa using hin
          refine VW.run good [] ?_; simp (implicitDefEqProofs := false) [enc_list, h10, w1, w2, e1, e2, e3]
    · have hin2 := hin
      simp only [inP, Bool.and_eq_true, wi_iff] at hin
      obtain ⟨hpr, hd1, hd2⟩ := hin
      simp only [inP, properR, Bool.and_eq_true] at hin2
      obtain ⟨⟨e1, e2⟩, e3⟩ := hin2
      refine VW.seq_cut [(2, .ptr 0 17 0), (3, .ptr 1 4 0)] [vclT c t, rcl r] (VW.run good [] ?_) ?_; simp (implicitDefEqProofs := false) [enc_list, h10, w1, w2, e1, e2, e3]
      · exact ⟨2, [], by simp [enc_list,  h10], by simp, by simp, by simp (implicitDefEqProofs := false) [enc_list,  h10], by simp (implicitDefEqProofs := false) [enc_list,  h10]⟩
      refine VW.seq (VW.run good [] ?_); simp (implicitDefEqProofs := false) [enc_list]
      refine VW.declare 5 1 (by simp) ?_
      refine VW.seq_cut [(2, .ptr 0 17 0), (3, .ptr 1 4 0), (5, sl1 2 []), (6, .lst true 1 1 [.int .i64 t.Ahead])] [vclT c t, rcl r, .vec []] (VW.run good [] ?_) ?_; simp (implicitDefEqProofs := false) [enc_list, h10, at10, spliceV]
      · exact ⟨3, [], by simp [enc_list,  h10], by simp, by simp, by simp (implicitDefEqProofs := false) [enc_list,  h10], by simp (implicitDefEqProofs := false) [enc_list,  h10]⟩
      refine VW.seq (VW.run good [] ?_); simp (implicitDefEqProofs := false) [enc_list, h10, at11]
      have hcl := ot.ln
      obtain ⟨P1, hP1⟩ : ∃ P : PV × VM → Prop, ∀ x, P x ↔ (x = (PV.lst true 1 1 [.int .i64 t.Ahead], [vclT c t, rcl r, .vec []]) ∧ t.Changes = [] ∨ x = (sl1 4 (aheadsOf t), [vclT c t, rcl r, .vec [], .gone, .vec (encL (aheadsOf t))])) := ⟨_, fun _ => Iff.rfl⟩
      refine VW.loop_toE 0 (fun (x : PV × VM) => [(2, .ptr 0 17 0), (3, .ptr 1 4 0), (5, sl1 2 []), (6, x.1)]) (fun (x : PV × VM) => x.2) (fun (x : PV × VM) => P1 x) ?_ (fun x hp f m hc => ?_)
      · obtain ⟨Inv, hI⟩ : ∃ Inv : Nat → List (Nat × PV) → VM → Prop, ∀ k f m, Inv k f m ↔ ((k = 0 ∧ f = [(2, .ptr 0 17 0), (3, .ptr 1 4 0), (5, sl1 2 []), (6, .lst true 1 1 [.int .i64 t.Ahead]), (45, enc t.Changes), (46, .int .i64 t.Changes.length), (47, .int .i64 0)] ∧ m = [vclT c t, rcl r, .vec []]) ∨ (0 < k ∧ f = [(2, .ptr 0 17 0), (3, .ptr 1 4 0), (5, sl1 2 []), (6, sl1 4 (aheadK t k)), (45, enc t.Changes), (46, .int .i64 t.Changes.length), (47, .int .i64 k)] ∧ m = [vclT c t, rcl r, .vec [], .gone, .vec (encL (aheadK t k))])) := ⟨_, fun _ _ _ => Iff.rfl⟩
        refine VW.loop_cut Inv t.Changes.length ?_ ?_ ?_
        · exact ⟨_, _, (hI _ _ _).2 (.inl ⟨rfl, rfl, rfl⟩), ⟨3, [], by simp [enc_list,  h10], by simp, by simp, by simp (implicitDefEqProofs := false) [enc_list,  h10], by simp (implicitDefEqProofs := false) [enc_list,  h10]⟩⟩
        · intro k f m hk hv
          have w3 : IntKind.i64.wrap ((k : Int) + 1) = k + 1 := wrap64 (by omega) (by omega)
          have hA : aheadK t (k + 1) = aheadK t k ++ [t.Changes[k].Ahead] := by
            unfold aheadK
            rw [List.take_succ_eq_append_getElem hk, List.map_append]; rfl
          rcases (hI _ _ _).1 hv with ⟨rfl, rfl, rfl⟩ | ⟨hk0, rfl, rfl⟩
          · have w01 : IntKind.i64.wrap 1 = 1 := by decide
            have hA0 : aheadK t 0 = [t.Ahead] := by simp [aheadK]
            rw [hA0] at hA
            have hf0 : fits 2 8 = true := by decide
            have hA1 : encL (aheadK t 1) = [.int .i64 t.Ahead, .int .i64 t.Changes[0].Ahead] := by rw [hA]; rfl
            have hA2 : (aheadK t 1).length = 2 := by rw [hA]; rfl
            refine VW.run good [] ?_; simp (implicitDefEqProofs := false) [enc_list, hk, get_Change t.Changes 0 hk, w01, spliceV, appendV, newVec, okE, elemsV, hf0]
            refine ⟨_, _, (hI _ _ _).2 (.inr ⟨by omega, rfl, rfl⟩), ⟨5, [3], by simp [enc_list, h10, hA1, hA2], by simp, by simp, by simp (implicitDefEqProofs := false) [enc_list, h10, hA1, hA2], by simp (implicitDefEqProofs := false) [enc_list, h10, hA1, hA2]⟩⟩
          · have hf : fits ((aheadK t k).length + 1) 8 = true := fits8L (by simp [aheadK]; omega)
            refine VW.run good [] ?_; simp (implicitDefEqProofs := false) [enc_list, hk, get_Change t.Changes k hk, w3, hf, spliceV]
            rw [← hA]
            exact ⟨_, _, (hI _ _ _).2 (.inr ⟨by omega, rfl, rfl⟩), ⟨5, [], by simp [enc_list,  h10, hA], by simp, by simp, by simp (implicitDefEqProofs := false) [enc_list,  h10, hA], by simp (implicitDefEqProofs := false) [enc_list,  h10, hA]⟩⟩
        · intro f m hv
          rcases (hI _ _ _).1 hv with ⟨h0, rfl, rfl⟩ | ⟨hk0, rfl, rfl⟩
          · have hc0 : t.Changes = [] := List.eq_nil_of_length_eq_zero h0
            refine VW.run good [] ?_; simp (implicitDefEqProofs := false) [enc_list, h0]
            exact ⟨_, _, (hP1 (_, _)).2 (.inl ⟨rfl, hc0⟩), ⟨3, [], by simp [enc_list,  h10], by simp, by simp, by simp (implicitDefEqProofs := false) [enc_list,  h10], by simp (implicitDefEqProofs := false) [enc_list,  h10]⟩⟩
          · have hA : aheadK t t.Changes.length = aheadsOf t := by unfold aheadK aheadsOf; rw [List.take_length]
            refine VW.run good [] ?_; simp (implicitDefEqProofs := false) [enc_list]
            rw [hA]
            exact ⟨_, _, (hP1 (_, _)).2 (.inr rfl), ⟨5, [], by simp [enc_list,  h10], by simp, by simp, by simp (implicitDefEqProofs := false) [enc_list,  h10], by simp (implicitDefEqProofs := false) [enc_list,  h10]⟩⟩
      · simp (implicitDefEqProofs := false) [enc_list]
        refine VW.either (f' := mkF [(2, .ptr 0 17 0), (3, .ptr 1 4 0), (5, sl1 2 []), (6, enc (aheadsOf t))]) (m' := [vclT c t, rcl r, .vec []]) ((hP1 _).1 hp) (fun h hw => ?_) (fun h hw => ?_) ?_
        · obtain ⟨rfl, h⟩ := h
          have hE1 : encL [t.Ahead] = [PV.int .i64 t.Ahead] := rfl
          have : aheadsOf t = [t.Ahead] := by unfold aheadsOf; rw [h]; rfl
          rw [this] at hw
          refine .ofCut hc (.ofCut (l := [(2, .ptr 0 17 0), (3, .ptr 1 4 0), (5, sl1 2 []), (6, enc [t.Ahead])]) (M := [vclT c t, rcl r, .vec []]) ⟨3, [], by simp [enc_list,  h10, hE1], by simp, by simp, by simp (implicitDefEqProofs := false) [enc_list,  h10, hE1], by simp (implicitDefEqProofs := false) [enc_list,  h10, hE1]⟩ hw)
        · subst h
          refine .ofCut hc (VW.freeze (t := 4) (len := (aheadsOf t).length) (o := 0) (q := (aheadsOf t).length) (cap := openCap + 1) (e := 1) 6 (by simp) (.ofCut ⟨3, [], by simp [enc_list,  h10], by simp, by simp, by simp (implicitDefEqProofs := false) [enc_list,  h10], by simp (implicitDefEqProofs := false) [enc_list,  h10]⟩ hw))
        · have hal : (aheadsOf t).length ≤ 7 := by unfold aheadsOf; simp; omega
          have hab : ∀ x ∈ aheadsOf t, -1440 ≤ x ∧ x ≤ 1440 := fun x hx => by
            unfold aheadsOf at hx
            rcases List.mem_cons.1 hx with rfl | hx
            · exact ⟨ot.a1, ot.a2⟩
            · obtain ⟨y, hy, rfl⟩ := List.mem_map.1 hx
              have := chg_all _ _ _ ot.ch (Int.le_refl 0) y hy
              omega
          generalize hT : collL c t r [] (aheadsOf t) = T
          refine VW.seq (VW.run good [] ?_); simp (implicitDefEqProofs := false) [enc_list]
          refine VW.loop_to 2 [(5, sl1 2 T)] [vclT c t, rcl r, .vec (encL T)] (True) ?_ (fun hp f m hc => ?_)
          · obtain ⟨Inv, hI⟩ : ∃ Inv : Nat → List (Nat × PV) → VM → Prop, ∀ k f m, Inv k f m ↔ (∃ out : List Int, f = [(2, .ptr 0 17 0), (3, .ptr 1 4 0), (5, sl1 2 out), (57, enc (aheadsOf t)), (58, .int .i64 (aheadsOf t).length), (59, .int .i64 k)] ∧ m = [vclT c t, rcl r, .vec (encL out)] ∧ out.length ≤ k ∧ T = collL c t r out ((aheadsOf t).drop k)) := ⟨_, fun _ _ _ => Iff.rfl⟩
            refine VW.loop_cut Inv (aheadsOf t).length ?_ ?_ ?_
            · exact ⟨_, _, (hI _ _ _).2 ⟨[], rfl, rfl, by simp, hT.symm⟩, ⟨3, [], by simp [enc_list,  h10], by simp, by simp, by simp (implicitDefEqProofs := false) [enc_list,  h10], by simp (implicitDefEqProofs := false) [enc_list,  h10]⟩⟩
            · intro k f m hk hv
              obtain ⟨out, rfl, rfl, hol, hs⟩ := (hI _ _ _).1 hv
              have w3 : IntKind.i64.wrap ((k : Int) + 1) = k + 1 := wrap64 (by omega) (by omega)
              obtain ⟨a1, a2⟩ := hab _ (List.getElem_mem hk)
              rw [List.drop_eq_getElem_cons hk, collL] at hs
              generalize hn : (aheadsOf t)[k] = n at *
              have w4 : IntKind.i64.wrap (0 - n) = -n := by rw [show 0 - n = -n by omega]; exact wrap64 (by omega) (by omega)
              have w4' : IntKind.i64.wrap (-n) = -n := wrap64 (by omega) (by omega)
              refine VW.seq (VW.run good [] ?_); simp (implicitDefEqProofs := false) [enc_list, hk]
              refine VW.seq (VW.run good [] ?_); simp (implicitDefEqProofs := false) [enc_list, hk]
              refine VW.seq (VW.block ?_)
              refine VW.seq_cut [(2, .ptr 0 17 0), (3, .ptr 1 4 0), (5, sl1 2 out), (10, .int .i64 n), (57, enc (aheadsOf t)), (58, .int .i64 (aheadsOf t).length), (59, .int .i64 k)] [vclT c t, rcl r, .vec (encL out)] (VW.run good [] ?_) ?_; simp (implicitDefEqProofs := false) [enc_list, hk, get_Int (aheadsOf t) k hk, hn]
              · exact ⟨3, [], by simp [enc_list,  h10], by simp, by simp, by simp (implicitDefEqProofs := false) [enc_list,  h10], by simp (implicitDefEqProofs := false) [enc_list,  h10]⟩
              have hd17 : ∀ (a b c' e g x y : PV), List.drop 17 (a :: b :: c' :: e :: g :: (encL (moreA c).l ++ [x, y])) = [] := fun a b c' e g x y => List.drop_eq_nil_of_le (by simp [h10])
              have hd12 : ∀ (x y : PV), List.drop 12 (encL (moreA c).l ++ [x, y]) = [] := fun x y => List.drop_eq_nil_of_le (by simp [h10])
              have hrd : rdOk r := by
                simp only [properR, Bool.and_eq_true, wi_iff] at hpr
                unfold rdOk; omega
              have f1 : movedPF (vOf c t) r (-n) = some (movedR c r (-n)) := if_pos ⟨KOk_of ho, hrd, by omega, by omega⟩
              have f2 : ∀ x, tickPF (kOf c) x = some (if inR c x then (tickR c x, validR c x) else (0, false)) := fun x => if_pos (KOk_of ho)
              have hok : okTick c t r out n = (validR c (movedR c r (-n)) && decide (localR c t (tickR c (movedR c r (-n))) = r) && !(out.contains (tickR c (movedR c r (-n))))) := rfl
              generalize movedR c r (-n) = X at *
              cases hv : validR c X
              · rw [hok, hv] at hs
                simp only [Bool.false_and, Bool.false_eq_true, if_false] at hs
                obtain ⟨tk, htk⟩ : ∃ tk, (if inR c X then (tickR c X, validR c X) else (0, false)) = (tk, false) := by
                  split
                  · exact ⟨_, by rw [hv]⟩
                  · exact ⟨_, rfl⟩
                refine VW.run good [] ?_; simp (implicitDefEqProofs := false) [enc_list, w3, w4, w4', f1, f2, htk, h10, take10, take12, take10v, hd17, hd12, dec_V, dec_K2, fzL_ints, fzL_app, isFL_append, encL_isF, spliceV, scal_app, scal_ints, scal_int, scal_lst, -PV.scal, -List.all_eq_true]
                simp only [AExit.leave, thenV_normal]
                refine VW.run good [] ?_; simp (implicitDefEqProofs := false) [enc_list, w3]
                exact ⟨_, _, (hI _ _ _).2 ⟨out, rfl, rfl, by omega, hs⟩, ⟨3, [], by simp [enc_list,  h10], by simp, by simp, by simp (implicitDefEqProofs := false) [enc_list,  h10], by simp (implicitDefEqProofs := false) [enc_list,  h10]⟩⟩
              · have hin := valid_in o hv
                have htk : (if inR c X then (tickR c X, validR c X) else (0, false)) = (tickR c X, true) := by rw [if_pos hin, hv]
                obtain ⟨t0, t1, _⟩ := tick_read o hv
                have f3 : localPF (vOf c t) (tickR c X) = some (localR c t (tickR c X)) := if_pos ⟨KOk_of ho, hto, t0, t1⟩
                rw [hok, hv] at hs
                simp only [Bool.true_and] at hs
                have f2 := f2 X
                rw [htk] at f2
                generalize tickR c X = Y at *
                have hfr := findR_some Y out 0
                have hbq : (((localR c t Y).Day == r.Day) && (((localR c t Y).Hour == r.Hour) && (((localR c t Y).Minute == r.Minute) && ((localR c t Y).Second == r.Second)))) = decide (localR c t Y = r) := beq_Reading _ _
                have hf : fits (out.length + 1) 8 = true := fits8L (by omega)
                cases hl : decide (localR c t Y = r)
                · rw [hl] at hs hbq
                  simp only [Bool.false_and, Bool.false_eq_true, if_false] at hs
                  refine VW.run good [] ?_; simp (implicitDefEqProofs := false) [enc_list, w3, w4, w4', f1, f2, f3, hbq, h10, take10, take12, take10v, hd17, hd12, dec_V, dec_K2, fzL_ints, fzL_app, isFL_append, encL_isF, spliceV, scal_app, scal_ints, scal_int, scal_lst, -PV.scal, -List.all_eq_true, -Bool.and_eq_true]
                  simp only [AExit.leave, thenV_normal]
                  refine VW.run good [] ?_; simp (implicitDefEqProofs := false) [enc_list, w3]
                  exact ⟨_, _, (hI _ _ _).2 ⟨out, rfl, rfl, by omega, hs⟩, ⟨3, [], by simp [enc_list,  h10], by simp, by simp, by simp (implicitDefEqProofs := false) [enc_list,  h10], by simp (implicitDefEqProofs := false) [enc_list,  h10]⟩⟩
                · rw [hl] at hs hbq
                  simp only [Bool.true_and] at hs
                  rcases hfr with ⟨g1, g2⟩ | ⟨g1, g2⟩
                  · have g1' : decide (0 ≤ findR Y 0 out) = false := by rw [g1]; decide
                    rw [g2] at hs
                    simp only [Bool.not_false, if_true] at hs
                    refine VW.run good [] ?_; simp (implicitDefEqProofs := false) [enc_list, w3, w4, w4', f1, f2, f3, hbq, g1', hf, h10, take10, take12, take10v, hd17, hd12, dec_V, dec_K2, fzL_ints, fzL_app, isFL_append, encL_isF, spliceV, scal_app, scal_ints, scal_int, scal_lst, -PV.scal, -List.all_eq_true, -Bool.and_eq_true]
                    simp only [AExit.leave, thenV_normal]
                    refine VW.run good [] ?_; simp (implicitDefEqProofs := false) [enc_list, w3]
                    exact ⟨_, _, (hI _ _ _).2 ⟨_, rfl, rfl, by simp; omega, hs⟩, ⟨3, [], by simp [enc_list,  h10], by simp, by simp, by simp (implicitDefEqProofs := false) [enc_list,  h10], by simp (implicitDefEqProofs := false) [enc_list,  h10]⟩⟩
                  · have g1' : decide (0 ≤ findR Y 0 out) = true := by simpa using g1
                    rw [g2] at hs
                    simp only [Bool.not_true, Bool.false_eq_true, if_false] at hs
                    refine VW.run good [] ?_; simp (implicitDefEqProofs := false) [enc_list, w3, w4, w4', f1, f2, f3, hbq, g1', h10, take10, take12, take10v, hd17, hd12, dec_V, dec_K2, fzL_ints, fzL_app, isFL_append, encL_isF, spliceV, scal_app, scal_ints, scal_int, scal_lst, -PV.scal, -List.all_eq_true, -Bool.and_eq_true]
                    simp only [AExit.leave, thenV_normal]
                    refine VW.run good [] ?_; simp (implicitDefEqProofs := false) [enc_list, w3]
                    exact ⟨_, _, (hI _ _ _).2 ⟨out, rfl, rfl, by omega, hs⟩, ⟨3, [], by simp [enc_list,  h10], by simp, by simp, by simp (implicitDefEqProofs := false) [enc_list,  h10], by simp (implicitDefEqProofs := false) [enc_list,  h10]⟩⟩
            · intro f m hv
              obtain ⟨out, rfl, rfl, hol, hs⟩ := (hI _ _ _).1 hv
              rw [List.drop_length, collL] at hs
              subst hs
              refine VW.run good [] ?_; simp (implicitDefEqProofs := false) [enc_list]
              exact ⟨3, [], by simp [enc_list,  h10], by simp, by simp, by simp (implicitDefEqProofs := false) [enc_list,  h10], by simp (implicitDefEqProofs := false) [enc_list,  h10]⟩
          · simp (implicitDefEqProofs := false); refine .ofCut hc (VW.run good [] ?_); simp (implicitDefEqProofs := false) [enc_list]
            unfold VCo
            have hTl : T.length ≤ 12 := by
              have := collL_len (c := c) (t := t) (r := r) (aheadsOf t) []
              rw [hT] at this
              simp at this; omega
            refine vc_sort (l := T) (t := 2) hE rfl rfl hTl (by simp (implicitDefEqProofs := false) [enc_list, h10]) fun l' hp hs => ?_
            rw [← hT] at hp
            have hl' := coll_sorted o ot hpr hp hs
            rw [hl'] at hp ⊢
            have hpl := hp.length_eq
            rw [hT] at hpl
            simp (implicitDefEqProofs := false) [enc_list, ← hpl]
  · cases hr
end Go.RS.DC

/- Walks: the program (23): all ticks of a local reading, told. -/
namespace Go.RS.DC
open Go Go.RS
open Go.RS.Enc (enc dec)
variable {E : VEnv}
theorem slV_all (n : Nat) : slV n none (some (PV.int .i64 n)) (some (PV.int .i64 n)) = some (0, n, some n) := by
  simp [slV, boundV, numV, mOk]
theorem take_In (S : List Int) : List.take S.length (encL S) = encL S := List.take_of_length_le (by simp [El.sz])
set_option maxRecDepth 20000 in
theorem w_TicksP (hE : E.env.fn = G) (hgl : E.gl 1 = some [f130v, f131v]) : Ok E 52 (s3 fun c t r => some (TicksR c t r)) := by
  refine ok3 fun c t r a hr => ?_
  cases hr
  have good := goodV_cons (w_visited hE) (goodV_cons (w_ticksP hE hgl) goodV_nil)
  by_cases h0 : CheckTownR c t = 0
  · obtain ⟨ho, hto⟩ := checkTown_zero h0
    have h10 := (moreA c).h
    have hd17 : ∀ (a b c' e g x y : PV), List.drop 17 (a :: b :: c' :: e :: g :: (encL (moreA c).l ++ [x, y])) = [] := fun a b c' e g x y => List.drop_eq_nil_of_le (by simp [h10])
    have hd12 : ∀ (x y : PV), List.drop 12 (encL (moreA c).l ++ [x, y]) = [] := fun x y => List.drop_eq_nil_of_le (by simp [h10])
    have hV : VisitR c t = (vOf c t, 0) := if_pos h0
    have hR : TicksR c t r = (ticksR c t r, 0) := if_pos h0
    have f2 : ticksPF (vOf c t) r = some (ticksR c t r) := if_pos ⟨KOk_of ho, hto⟩
    rw [hR]
    generalize ticksR c t r = S at *
    refine VP.run (A := F52) (good) [] (by rw [hE]; rfl) (by simp [F52]) ?_; unfold F52; simp (implicitDefEqProofs := false) [enc_list, hV, f2, enc_vOf, h10, take10, take12, take10v, hd17, hd12, dec_V, spliceV, slV_all, take_In, fzL_ints, fzL_app, isFL_append, encL_isF, scal_app, scal_ints, scal_int, scal_lst, -PV.scal, -List.all_eq_true]
  · have hV : VisitR c t = (zeroV, CheckTownR c t) := if_neg h0
    have hR : TicksR c t r = ([], CheckTownR c t) := if_neg h0
    rw [hR]
    refine VP.run (A := F52) (good) [] (by rw [hE]; rfl) (by simp [F52]) ?_; unfold F52; simp (implicitDefEqProofs := false) [enc_list, hV, h0, enc_zeroV, spliceV]
end Go.RS.DC

/- Walks: the laws' own readings, calendars and towns. -/
namespace Go.RS.DC
open Go Go.RS
open Go.RS.Enc (enc dec)
variable {E : VEnv}
end Go.RS.DC

/- Walks: lists that come before others; a number of a span. -/
namespace Go.RS.DC
open Go Go.RS
open Go.RS.Enc (enc dec)
variable {E : VEnv}
end Go.RS.DC

