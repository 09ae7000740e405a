/- Walks: the laws: CallerChange. -/
import Derived.Test.YtidnkmbicedmjaaDoorLwv
import Derived.Test.YtidnkmbicedmjaaDoorWkd
import Derived.Test.YtidnkmbicedmjaaDoorPlq
set_option linter.all false
namespace Go.RS.CC
open Go Go.RS
open Go.RS.Enc (enc dec)
variable {E : VEnv}
/-- Those for whom something is so, by their numbers. -/
def pickL (p : Served → Served → Bool) : Nat → List Served → List Served → List Int
  | k, a :: S, c :: T => (if p a c then [(k : Int)] else []) ++ pickL p (k + 1) S T
  | _, _, _ => []
theorem chg_pick : ∀ (S T : List Served) (k : Nat), chgL k S T = (pickL (fun a c => sooner c a) k S T, pickL (fun a c => sooner a c) k S T)
  | a :: S, c :: T, k => by rw [chgL, chg_pick S T (k + 1), pickL, pickL]
  | [], [], k => rfl
  | [], _ :: _, k => rfl
  | _ :: _, [], k => rfl
theorem mem_pick (p : Served → Served → Bool) : ∀ (S T : List Served) (k : Nat) (x : Int), x ∈ pickL p k S T ↔ ∃ i, ∃ h : i < S.length, ∃ h' : i < T.length, x = ((k + i : Nat) : Int) ∧ p S[i] T[i] = true
  | [], T, k, x => by cases T <;> simp [pickL]
  | a :: S, [], k, x => by simp [pickL]
  | a :: S, c :: T, k, x => by
    rw [pickL, List.mem_append, mem_pick p S T (k + 1) x]
    constructor
    · rintro (h | ⟨i, h, h', e, g⟩)
      · split at h
        · rename_i hp
          simp only [List.mem_singleton] at h
          exact ⟨0, by simp, by simp, by simpa using h, hp⟩
        · cases h
      · exact ⟨i + 1, by simpa using h, by simpa using h', by rw [e]; omega, g⟩
    · rintro ⟨i, h, h', e, g⟩
      cases i with
      | zero =>
        simp only [List.getElem_cons_zero] at g
        exact .inl (by rw [if_pos g]; simpa using e)
      | succ i => exact .inr ⟨i, by simpa using h, by simpa using h', by rw [e]; omega, g⟩
theorem climbs_pick (p : Served → Served → Bool) (n : Int) (h3 : n ≤ 1000000) : ∀ (S T : List Served) (k : Nat) (least : Int), least ≤ k → (k : Int) + S.length ≤ n → climbsR n least (pickL p k S T) = true
  | [], T, k, _, _, _ => by cases T <;> rfl
  | a :: S, [], k, _, _, _ => rfl
  | a :: S, c :: T, k, least, h1, h2 => by
    simp only [List.length_cons] at h2
    rw [pickL]
    split
    · have w1 : IntKind.i64.wrap (n - 1) = n - 1 := wrap64 (by omega) (by omega)
      have w2 : IntKind.i64.wrap ((k : Int) + 1) = k + 1 := wrap64 (by omega) (by omega)
      rw [List.singleton_append, climbsR, w1, w2, (wi_iff _ _ _).2 ⟨h1, by omega⟩, climbs_pick p n h3 S T (k + 1) ((k : Int) + 1) (by omega) (by omega)]
      rfl
    · exact climbs_pick p n h3 S T (k + 1) least (by omega) (by omega)
theorem not_both (a c : Served) : (sooner a c && sooner c a) = false := by
  rw [Bool.eq_false_iff]
  simp only [sooner, ne_eq, Bool.and_eq_true, Bool.or_eq_true, decide_eq_true_eq]
  omega
theorem dec_no (ex : Bool) : (dec (PV.lst ex 0 1 []) : Option (List Int)) = some [] := rfl
set_option maxHeartbeats 3200000 in
set_option maxRecDepth 20000 in
theorem l_Change (hE : E.env.fn = G) (hW : WorksOk E) (b : Book) (n0 n1 n2 : Int) : VP E 13 [enc b, .agg [.int .i64 n0, .int .i64 n1, .int .i64 n2]] (.bool true) := by
  have good := goodV_cons (w_sound hE) (goodV_cons (w_works hW) (goodV_cons (w_hourly hE) (goodV_cons (w_ServeP hE) (goodV_cons (w_ChangeP hE) (goodV_cons (w_LostP hE) (goodV_cons (w_Climbs hE) (goodV_cons (w_Find hE) (goodV_cons (w_Rest hE) goodV_nil))))))))
  by_cases ho : okR b = true
  · have bo := okR_ok ho
    obtain ⟨H, C, q, S, pk⟩ := pick_of ho n0 n1
    have hl1 := bo.h1
    have hS := pk.serve
    have hl := pk.len
    have h12 := pk.l12
    have c1 := pk.c1
    have c2 := pk.c2
    by_cases h20 : C = 20
    · have ha2 : askedR b H (C + 1) = 91 := by
        have hw : wi (C + 1) 1 20 = false := by rw [h20]; rfl
        unfold askedR; rw [if_pos ho, hw, Bool.and_false, if_neg (by decide)]
      have hC : ChangeR b H C = ⟨[], [], 91⟩ := by
        unfold ChangeR; rw [hS]; unfold ServeR; rw [ha2]; rfl
      have hpc := pk.c
      subst h20
      have w0 : IntKind.i64.wrap 0 = 0 := rfl
      refine VP.run (A := F13) (good) [] (by rw [hE]; rfl) (by simp [F13]) ?_; unfold F13; simp (implicitDefEqProofs := false) [enc_list, w0, spliceV, ho, hl1, pk.h, hpc, hS, hC]
    · have haD := asked_of ho (C := C + 1) pk.h0 pk.h1 (by omega) (by omega)
      have hT : ServeR b H (C + 1) = (serveR b.Each (C + 1) [] q, 0) := by rw [ServeR, if_pos haD, pk.hour]
      have scT : Sched b.Each (C + 1) q (serveR b.Each (C + 1) [] q) := sched_of ho pk.mem
      have hL : LostR b H C = (lostL 0 S, 0) := by unfold LostR; rw [hS]; rfl
      generalize serveR b.Each (C + 1) [] q = T at *
      have hlT := scT.len
      have hC : ChangeR b H C = ⟨pickL (fun a c => sooner c a) 0 S T, pickL (fun a c => sooner a c) 0 S T, 0⟩ := by
        unfold ChangeR; rw [hS, hT]
        simp only [if_true]
        rw [chg_pick]
      have cX := climbs_pick (fun a c => sooner c a) q.length (by omega) S T 0 0 (by omega) (by omega)
      have cY := climbs_pick (fun a c => sooner a c) q.length (by omega) S T 0 0 (by omega) (by omega)
      have hlw : lostL 0 S = [] → pickL (fun a c => sooner a c) 0 S T = [] := fun h0 => by
        have hn := joined_of_lost S 0 (by rw [h0]; rfl)
        have := chg_worse S T 0 fun i g g' => by
          obtain ⟨m1, m2⟩ := pk.sched.more scT (by omega) hn i g g'
          have := hn _ (List.getElem_mem g)
          simp [sooner]; intro _; omega
        rw [chg_pick] at this
        exact this
      have mX := mem_pick (fun a c => sooner c a) S T 0
      have mY := mem_pick (fun a c => sooner a c) S T 0
      have w1 : IntKind.i64.wrap (C + 1) = C + 1 := wrap64 (by omega) (by omega)
      generalize pickL (fun a c => sooner c a) 0 S T = X at *
      generalize pickL (fun a c => sooner a c) 0 S T = Y at *
      have hlost : ¬ ((lostL 0 S).length = 0 ∧ 0 < Y.length) := by
        rintro ⟨h1, h2⟩
        rw [hlw (List.eq_nil_of_length_eq_zero h1)] at h2
        simp at h2
      generalize lostL 0 S = L at *
      by_cases hz : q.length = 0
      · have hX : X = [] := by
          cases X with
          | nil => rfl
          | cons x X =>
            obtain ⟨i, hi, _⟩ := (mX x).1 (by simp)
            omega
        have hY : Y = [] := by
          cases Y with
          | nil => rfl
          | cons x Y =>
            obtain ⟨i, hi, _⟩ := (mY x).1 (by simp)
            omega
        subst hX hY
        rw [hz] at cX cY
        by_cases hLz : L.length = 0
        · refine VP.run (A := F13) (good) [] (by rw [hE]; rfl) (by simp [F13]) ?_; unfold F13; simp (implicitDefEqProofs := false) [enc_list, spliceV, ho, hl1, pk.h, pk.c, hS, hC, h20, hT, hL, pk.gl, pk.h0, pk.h1, w1, hl, hlT, hz, hLz, show climbsR 0 0 [] = true from rfl, dec_no]
        · refine VP.run (A := F13) (good) [] (by rw [hE]; rfl) (by simp [F13]) ?_; unfold F13; simp (implicitDefEqProofs := false) [enc_list, spliceV, ho, hl1, pk.h, pk.c, hS, hC, h20, hT, hL, pk.gl, pk.h0, pk.h1, w1, hl, hlT, hz, hLz, show climbsR 0 0 [] = true from rfl, dec_no]
      · have a0 := Int.emod_nonneg n2 (show (q.length : Int) ≠ 0 by omega)
        have a1 := Int.emod_lt_of_pos n2 (show (0 : Int) < q.length by omega)
        have hr : restF n2 q.length = some (n2 % q.length) := if_pos ⟨by omega, by omega⟩
        generalize hk : n2 % (q.length : Int) = k at *
        have hks : k.toNat < S.length := by omega
        have hkt : k.toNat < T.length := by omega
        have hki : ((k.toNat : Nat) : Int) = k := by omega
        have fX : decide (0 ≤ findR k 0 X) = sooner T[k.toNat] S[k.toNat] := by
          rw [Bool.eq_iff_iff, decide_eq_true_eq, find_nneg, mX]
          constructor
          · rintro ⟨i, h, h', e, g⟩
            obtain rfl : i = k.toNat := by omega
            exact g
          · intro g; exact ⟨k.toNat, hks, hkt, by omega, g⟩
        have fY : decide (0 ≤ findR k 0 Y) = sooner S[k.toNat] T[k.toNat] := by
          rw [Bool.eq_iff_iff, decide_eq_true_eq, find_nneg, mY]
          constructor
          · rintro ⟨i, h, h', e, g⟩
            obtain rfl : i = k.toNat := by omega
            exact g
          · intro g; exact ⟨k.toNat, hks, hkt, by omega, g⟩
        have hgS := get_Served S k.toNat hks
        have hgT := get_Served T k.toNat hkt
        have hz3 : ¬ q = [] := by intro h; rw [h] at hz; exact hz rfl
        have hnb := not_both T[k.toNat] S[k.toNat]
        generalize S[k.toNat] = s at *
        generalize T[k.toNat] = t at *
        have hkl : k < q.length := a1
        have hkn : k.toNat < q.length := by omega
        by_cases hLz : L = []
        · have hYz : ¬ 0 < Y.length := fun h => hlost ⟨by rw [hLz]; rfl, h⟩
          refine VP.run (A := F13) (good) [] (by rw [hE]; rfl) (by simp [F13]) ?_; unfold F13; simp (implicitDefEqProofs := false) [enc_list, spliceV, ho, hl1, pk.h, pk.c, hS, hC, h20, hT, hL, pk.gl, pk.h0, pk.h1, w1, hl, hlT, hz, hz3, cX, cY, hLz, hYz, hr, a0, hkl, hgS, hgT]
          rcases (show (0 ≤ t.Joined ∧ s.Joined < 0) ∨ (0 ≤ t.Joined ∧ 0 ≤ s.Joined ∧ t.Joined < s.Joined) ∨ (0 ≤ t.Joined ∧ 0 ≤ s.Joined ∧ s.Joined < t.Joined) ∨ (0 ≤ t.Joined ∧ 0 ≤ s.Joined ∧ s.Joined = t.Joined) ∨ (t.Joined < 0 ∧ 0 ≤ s.Joined) ∨ t.Joined < 0 ∧ s.Joined < 0 by omega) with h | h | h | h | h | h
          · have p1 := eq_true (show 0 ≤ t.Joined by omega)
            have p2 := eq_true (show s.Joined < 0 by omega)
            have p3 := eq_false (show ¬ t.Joined < s.Joined by omega)
            have p4 := eq_false (show ¬ 0 ≤ s.Joined by omega)
            have p5 := eq_false (show ¬ t.Joined < 0 by omega)
            have p6 := eq_true (show s.Joined < t.Joined by omega)
            simp (implicitDefEqProofs := false) [enc_list, a0, hkl, hgS, hgT, fX, fY, sooner, dec_no, p1, p2, p3, p4, p5, p6]
          · have p1 := eq_true (show 0 ≤ t.Joined by omega)
            have p2 := eq_false (show ¬ s.Joined < 0 by omega)
            have p3 := eq_true (show t.Joined < s.Joined by omega)
            have p4 := eq_true (show 0 ≤ s.Joined by omega)
            have p5 := eq_false (show ¬ t.Joined < 0 by omega)
            have p6 := eq_false (show ¬ s.Joined < t.Joined by omega)
            simp (implicitDefEqProofs := false) [enc_list, a0, hkl, hgS, hgT, fX, fY, sooner, dec_no, p1, p2, p3, p4, p5, p6]
          · have p1 := eq_true (show 0 ≤ t.Joined by omega)
            have p2 := eq_false (show ¬ s.Joined < 0 by omega)
            have p3 := eq_false (show ¬ t.Joined < s.Joined by omega)
            have p4 := eq_true (show 0 ≤ s.Joined by omega)
            have p5 := eq_false (show ¬ t.Joined < 0 by omega)
            have p6 := eq_true (show s.Joined < t.Joined by omega)
            simp (implicitDefEqProofs := false) [enc_list, a0, hkl, hgS, hgT, fX, fY, sooner, dec_no, p1, p2, p3, p4, p5, p6]
          · have p1 := eq_true (show 0 ≤ t.Joined by omega)
            have p2 := eq_false (show ¬ s.Joined < 0 by omega)
            have p3 := eq_false (show ¬ t.Joined < s.Joined by omega)
            have p4 := eq_true (show 0 ≤ s.Joined by omega)
            have p5 := eq_false (show ¬ t.Joined < 0 by omega)
            have p6 := eq_false (show ¬ s.Joined < t.Joined by omega)
            simp (implicitDefEqProofs := false) [enc_list, a0, hkl, hgS, hgT, fX, fY, sooner, dec_no, p1, p2, p3, p4, p5, p6]
          · have p1 := eq_false (show ¬ 0 ≤ t.Joined by omega)
            have p2 := eq_false (show ¬ s.Joined < 0 by omega)
            have p3 := eq_true (show t.Joined < s.Joined by omega)
            have p4 := eq_true (show 0 ≤ s.Joined by omega)
            have p5 := eq_true (show t.Joined < 0 by omega)
            have p6 := eq_false (show ¬ s.Joined < t.Joined by omega)
            simp (implicitDefEqProofs := false) [enc_list, a0, hkl, hgS, hgT, fX, fY, sooner, dec_no, p1, p2, p3, p4, p5, p6]
          · have p1 := eq_false (show ¬ 0 ≤ t.Joined by omega)
            have p2 := eq_true (show s.Joined < 0 by omega)
            have p4 := eq_false (show ¬ 0 ≤ s.Joined by omega)
            have p5 := eq_true (show t.Joined < 0 by omega)
            simp (implicitDefEqProofs := false) [enc_list, a0, hkl, hgS, hgT, fX, fY, sooner, dec_no, p1, p2, p4, p5]
        · have hLz2 : ¬ L.length = 0 := by simpa using hLz
          refine VP.run (A := F13) (good) [] (by rw [hE]; rfl) (by simp [F13]) ?_; unfold F13; simp (implicitDefEqProofs := false) [enc_list, spliceV, ho, hl1, pk.h, pk.c, hS, hC, h20, hT, hL, pk.gl, pk.h0, pk.h1, w1, hl, hlT, hz, hz3, cX, cY, hLz, hr, a0, hkl, hgS, hgT]
          rcases (show (0 ≤ t.Joined ∧ s.Joined < 0) ∨ (0 ≤ t.Joined ∧ 0 ≤ s.Joined ∧ t.Joined < s.Joined) ∨ (0 ≤ t.Joined ∧ 0 ≤ s.Joined ∧ s.Joined < t.Joined) ∨ (0 ≤ t.Joined ∧ 0 ≤ s.Joined ∧ s.Joined = t.Joined) ∨ (t.Joined < 0 ∧ 0 ≤ s.Joined) ∨ t.Joined < 0 ∧ s.Joined < 0 by omega) with h | h | h | h | h | h
          · have p1 := eq_true (show 0 ≤ t.Joined by omega)
            have p2 := eq_true (show s.Joined < 0 by omega)
            have p3 := eq_false (show ¬ t.Joined < s.Joined by omega)
            have p4 := eq_false (show ¬ 0 ≤ s.Joined by omega)
            have p5 := eq_false (show ¬ t.Joined < 0 by omega)
            have p6 := eq_true (show s.Joined < t.Joined by omega)
            simp (implicitDefEqProofs := false) [enc_list, a0, hkl, hgS, hgT, fX, fY, sooner, dec_no, p1, p2, p3, p4, p5, p6]
          · have p1 := eq_true (show 0 ≤ t.Joined by omega)
            have p2 := eq_false (show ¬ s.Joined < 0 by omega)
            have p3 := eq_true (show t.Joined < s.Joined by omega)
            have p4 := eq_true (show 0 ≤ s.Joined by omega)
            have p5 := eq_false (show ¬ t.Joined < 0 by omega)
            have p6 := eq_false (show ¬ s.Joined < t.Joined by omega)
            simp (implicitDefEqProofs := false) [enc_list, a0, hkl, hgS, hgT, fX, fY, sooner, dec_no, p1, p2, p3, p4, p5, p6]
          · have p1 := eq_true (show 0 ≤ t.Joined by omega)
            have p2 := eq_false (show ¬ s.Joined < 0 by omega)
            have p3 := eq_false (show ¬ t.Joined < s.Joined by omega)
            have p4 := eq_true (show 0 ≤ s.Joined by omega)
            have p5 := eq_false (show ¬ t.Joined < 0 by omega)
            have p6 := eq_true (show s.Joined < t.Joined by omega)
            simp (implicitDefEqProofs := false) [enc_list, a0, hkl, hgS, hgT, fX, fY, sooner, dec_no, p1, p2, p3, p4, p5, p6]
          · have p1 := eq_true (show 0 ≤ t.Joined by omega)
            have p2 := eq_false (show ¬ s.Joined < 0 by omega)
            have p3 := eq_false (show ¬ t.Joined < s.Joined by omega)
            have p4 := eq_true (show 0 ≤ s.Joined by omega)
            have p5 := eq_false (show ¬ t.Joined < 0 by omega)
            have p6 := eq_false (show ¬ s.Joined < t.Joined by omega)
            simp (implicitDefEqProofs := false) [enc_list, a0, hkl, hgS, hgT, fX, fY, sooner, dec_no, p1, p2, p3, p4, p5, p6]
          · have p1 := eq_false (show ¬ 0 ≤ t.Joined by omega)
            have p2 := eq_false (show ¬ s.Joined < 0 by omega)
            have p3 := eq_true (show t.Joined < s.Joined by omega)
            have p4 := eq_true (show 0 ≤ s.Joined by omega)
            have p5 := eq_true (show t.Joined < 0 by omega)
            have p6 := eq_false (show ¬ s.Joined < t.Joined by omega)
            simp (implicitDefEqProofs := false) [enc_list, a0, hkl, hgS, hgT, fX, fY, sooner, dec_no, p1, p2, p3, p4, p5, p6]
          · have p1 := eq_false (show ¬ 0 ≤ t.Joined by omega)
            have p2 := eq_true (show s.Joined < 0 by omega)
            have p4 := eq_false (show ¬ 0 ≤ s.Joined by omega)
            have p5 := eq_true (show t.Joined < 0 by omega)
            simp (implicitDefEqProofs := false) [enc_list, a0, hkl, hgS, hgT, fX, fY, sooner, dec_no, p1, p2, p4, p5]
  · refine VP.run (A := F13) (good) [] (by rw [hE]; rfl) (by simp [F13]) ?_; unfold F13; simp (implicitDefEqProofs := false) [enc_list, ho]
end Go.RS.CC

