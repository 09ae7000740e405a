/- Walks: the reference (6). -/
import Derived.Test.YtidnkmbicedmjaaDoorWka
set_option linter.all false
namespace Go.RS.CC
open Go Go.RS
open Go.RS.Enc (enc dec)
variable {E : VEnv}
theorem serveF_eq {b : Book} (bo : BookOk b) {l : List Call} (hl : l ∈ b.Hours) {c : Int} (h1 : 0 ≤ c) (h2 : c ≤ 1000) : serveF b l c = some (serveR b.Each c [] l) :=
  if_pos ⟨bo.e1, bo.e2, fun x hx => (bo.hc _ hl x hx).1, h1, h2, by have := bo.hl _ hl; omega⟩
theorem w_FewestR (hE : E.env.fn = G) : Ok E 26 (s1 fun b => some (FewestR b)) := by
  refine ok1 fun b r hr => ?_
  cases hr
  have good := goodV_cons (w_CheckR hE) (goodV_cons (w_serve hE) (goodV_cons (w_lostR hE) goodV_nil))
  by_cases ho : okR b = true
  · have bo := okR_ok ho
    have hbl := bo.h2
    have hR : FewestR b = (fewL b 20 1, 0) := by simp [FewestR, ho]
    rw [hR]
    generalize hT : fewL b 20 1 = T
    refine VP.run (A := F26) (good) [] (by rw [hE]; rfl) (by simp [F26]) ?_; unfold F26; simp (implicitDefEqProofs := false) [enc_list, checkR, ho]
    refine VW.loop_to 0 [] [] (False) ?_ (fun hp f m hc => ?_)
    · obtain ⟨Inv, hI⟩ : ∃ Inv : Nat → List (Nat × PV) → VM → Prop, ∀ i f m, Inv i f m ↔ (f = [(1, .ptr 0 6 0), (5, .int .i64 (i + 1))] ∧ m = [bkc b] ∧ i ≤ 19 ∧ T = fewL b (20 - i) (i + 1)) := ⟨_, fun _ _ _ => Iff.rfl⟩
      refine VW.loop_cut Inv 20 ?_ ?_ ?_
      · exact ⟨_, _, (hI _ _ _).2 ⟨rfl, rfl, by omega, hT.symm⟩, ⟨1, [], by simp [enc_list], by simp, by simp, by simp (implicitDefEqProofs := false) [enc_list], by simp (implicitDefEqProofs := false) [enc_list]⟩⟩
      · intro i f m hil hi
        obtain ⟨rfl, rfl, hi9, hs⟩ := (hI _ _ _).1 hi
        refine VW.run good [] ?_; simp (implicitDefEqProofs := false) [enc_list]
        refine VW.loop_to 2 [(1, .ptr 0 6 0), (5, .int .i64 (i + 1)), (6, .bool (enoughR b (i + 1)))] [bkc b] (True) ?_ (fun hp f m hc => ?_)
        · clear hI hi
          obtain ⟨Inv, hI⟩ : ∃ Inv : Nat → List (Nat × PV) → VM → Prop, ∀ k f m, Inv k f m ↔ (∃ s, f = [(1, .ptr 0 6 0), (5, .int .i64 (i + 1)), (6, .bool s), (7, .int .i64 k)] ∧ m = [bkc b] ∧ enoughR b (i + 1) = (s && (b.Hours.drop k).all fun l => decide ((lostL 0 (serveR b.Each (i + 1) [] l)).length = 0))) := ⟨_, fun _ _ _ => Iff.rfl⟩
          refine VW.loop_cut Inv b.Hours.length ?_ ?_ ?_
          · exact ⟨_, _, (hI _ _ _).2 ⟨true, rfl, rfl, by simp [enoughR]⟩, ⟨1, [], by simp [enc_list], by simp, by simp, by simp (implicitDefEqProofs := false) [enc_list], by simp (implicitDefEqProofs := false) [enc_list]⟩⟩
          · intro k f m hk hi
            obtain ⟨s, rfl, rfl, hs⟩ := (hI _ _ _).1 hi
            rw [List.drop_eq_getElem_cons hk, List.all_cons] at hs
            have w1 : IntKind.i64.wrap ((k : Int) + 1) = k + 1 := wrap64 (by omega) (by omega)
            have hF := serveF_eq bo (List.getElem_mem hk) (c := (i : Int) + 1) (by omega) (by omega)
            have hl : (serveR b.Each ((i : Int) + 1) [] b.Hours[k]).length ≤ 1000 := by rw [serveR_len]; have := bo.hl _ (List.getElem_mem hk); simp; omega
            cases s
            · refine VW.run good [] ?_; simp (implicitDefEqProofs := false) [enc_list, hk, w1]
              exact ⟨_, _, (hI _ _ _).2 ⟨false, rfl, rfl, by simpa using hs⟩, ⟨1, [], by simp [enc_list], by simp, by simp, by simp (implicitDefEqProofs := false) [enc_list], by simp (implicitDefEqProofs := false) [enc_list]⟩⟩
            · refine VW.run good [] ?_; simp (implicitDefEqProofs := false) [enc_list, hk, w1, get_List _ k hk, hF, hl]
              exact ⟨_, _, (hI _ _ _).2 ⟨decide ((lostL 0 (serveR b.Each (i + 1) [] b.Hours[k])).length = 0), rfl, rfl, hs⟩, ⟨1, [], by simp [enc_list], by simp, by simp, by simp (implicitDefEqProofs := false) [enc_list], by simp (implicitDefEqProofs := false) [enc_list]⟩⟩
          · intro f m hi
            obtain ⟨s, rfl, rfl, hs⟩ := (hI _ _ _).1 hi
            rw [List.drop_length, List.all_nil, Bool.and_true] at hs
            refine VW.run good [] ?_; simp (implicitDefEqProofs := false) [enc_list]
            exact ⟨1, [], by simp [enc_list,  hs], by simp, by simp, by simp (implicitDefEqProofs := false) [enc_list,  hs], by simp (implicitDefEqProofs := false) [enc_list,  hs]⟩
        · have w1 : IntKind.i64.wrap ((i : Int) + 1 + 1) = i + 1 + 1 := wrap64 (by omega) (by omega)
          have e1 : 20 - i = (20 - (i + 1)) + 1 := by omega
          rw [e1, fewL] at hs
          simp (implicitDefEqProofs := false); refine .ofCut hc (VW.run good [] ?_); simp (implicitDefEqProofs := false) [enc_list]
          by_cases hen : enoughR b (i + 1) = true
          · rw [hen, Bool.true_or, if_pos rfl] at hs
            simp (implicitDefEqProofs := false) [enc_list, hen, hs]
          · have hen : enoughR b (i + 1) = false := by simpa using hen
            by_cases h20 : (i : Int) + 1 = 20
            · rw [if_pos (by simp [h20])] at hs
              have hen2 : enoughR b 20 = false := by rw [← h20]; exact hen
              simp (implicitDefEqProofs := false) [enc_list, hen2, h20, hs]
            · rw [if_neg (by simp [h20, hen])] at hs
              simp (implicitDefEqProofs := false) [enc_list, hen, h20]
              refine VW.run good [] ?_; simp (implicitDefEqProofs := false) [enc_list, w1]
              exact ⟨_, _, (hI _ _ _).2 ⟨rfl, rfl, by omega, hs⟩, ⟨1, [], by simp [enc_list], by simp, by simp, by simp (implicitDefEqProofs := false) [enc_list], by simp (implicitDefEqProofs := false) [enc_list]⟩⟩
      · intro f m hi
        obtain ⟨rfl, rfl, hi9, hs⟩ := (hI _ _ _).1 hi
        omega
    · exact hp.elim
  · refine VP.run (A := F26) (good) [] (by rw [hE]; rfl) (by simp [F26]) ?_; unfold F26; simp (implicitDefEqProofs := false) [enc_list, checkR, ho, FewestR]
theorem busyL_bound (l : List Served) : ∀ (r : List Served) (m a : Int), 0 ≤ m → m ≤ l.length → 0 ≤ (busyL l r m a).1 ∧ (busyL l r m a).1 ≤ l.length
  | [], m, a, h1, h2 => ⟨h1, h2⟩
  | x :: r, m, a, h1, h2 => by
    have hj : joinedR l x.Joined ≤ l.length := List.countP_le_length
    unfold busyL
    split
    · exact busyL_bound l r m a h1 h2
    · split
      · exact busyL_bound l r _ _ (by omega) (by omega)
      · exact busyL_bound l r m a h1 h2
theorem w_BusyR (hE : E.env.fn = G) : Ok E 28 (s3 fun b h c => some (BusyR b h c)) := by
  refine ok3 fun b h c r hr => ?_
  cases hr
  have good := goodV_cons (w_ServeR hE) (goodV_cons (w_joinedR hE) goodV_nil)
  have hl := ServeR_len b h c
  generalize hS : ServeR b h c = S at hl
  obtain ⟨s, e⟩ := S
  simp at hl
  by_cases he : e = 0
  · refine VP.run (A := F28) (good) [] (by rw [hE]; rfl) (by simp [F28]) ?_; unfold F28; simp (implicitDefEqProofs := false) [enc_list, hS, he]
    refine VW.loop_to 0 [(11, .int .i64 (busyL s s 0 0).1), (12, .int .i64 (busyL s s 0 0).2)] [] (True) ?_ (fun hp f m hc => ?_)
    · obtain ⟨Inv, hI⟩ : ∃ Inv : Nat → List (Nat × PV) → VM → Prop, ∀ k f m, Inv k f m ↔ (∃ x a, f = [(9, enc s), (11, .int .i64 x), (12, .int .i64 a), (13, .int .i64 k)] ∧ m = [] ∧ busyL s s 0 0 = busyL s (s.drop k) x a) := ⟨_, fun _ _ _ => Iff.rfl⟩
      refine VW.loop_cut Inv s.length ?_ ?_ ?_
      · exact ⟨_, _, (hI _ _ _).2 ⟨0, 0, rfl, rfl, rfl⟩, ⟨0, [], by simp [enc_list], by simp, by simp, by simp (implicitDefEqProofs := false) [enc_list], by simp (implicitDefEqProofs := false) [enc_list]⟩⟩
      · intro k f m hk hi
        obtain ⟨x, a, rfl, rfl, hs⟩ := (hI _ _ _).1 hi
        have w1 : IntKind.i64.wrap ((k : Int) + 1) = k + 1 := wrap64 (by omega) (by omega)
        rw [List.drop_eq_getElem_cons hk, busyL] at hs
        by_cases hj : s[k].Joined < 0
        · rw [if_pos hj] at hs
          refine VW.run good [] ?_; simp (implicitDefEqProofs := false) [enc_list, hk, w1, get_Served s k hk, hj]
          exact ⟨_, _, (hI _ _ _).2 ⟨x, a, rfl, rfl, hs⟩, ⟨0, [], by simp [enc_list], by simp, by simp, by simp (implicitDefEqProofs := false) [enc_list], by simp (implicitDefEqProofs := false) [enc_list]⟩⟩
        · rw [if_neg hj] at hs
          refine VW.run good [] ?_; simp (implicitDefEqProofs := false) [enc_list, hk, w1, get_Served s k hk, hj]
          by_cases h1 : x < joinedR s s[k].Joined
          · simp [h1] at hs
            simp (implicitDefEqProofs := false) [enc_list, h1, hk, w1, get_Served s k hk]
            exact ⟨_, _, (hI _ _ _).2 ⟨_, _, rfl, rfl, hs⟩, ⟨0, [], by simp [enc_list], by simp, by simp, by simp (implicitDefEqProofs := false) [enc_list], by simp (implicitDefEqProofs := false) [enc_list]⟩⟩
          · by_cases h2 : (joinedR s s[k].Joined : Int) = x
            · by_cases h3 : s[k].Joined < a
              · simp [h1, h2, h3] at hs
                simp (implicitDefEqProofs := false) [enc_list, h1, h2, h3, hk, w1, get_Served s k hk]
                exact ⟨_, _, (hI _ _ _).2 ⟨_, _, rfl, rfl, hs⟩, ⟨0, [], by simp [enc_list], by simp, by simp, by simp (implicitDefEqProofs := false) [enc_list], by simp (implicitDefEqProofs := false) [enc_list]⟩⟩
              · simp [h1, h2, h3] at hs
                simp (implicitDefEqProofs := false) [enc_list, h1, h2, h3, hk, w1, get_Served s k hk]
                exact ⟨_, _, (hI _ _ _).2 ⟨_, _, rfl, rfl, hs⟩, ⟨0, [], by simp [enc_list], by simp, by simp, by simp (implicitDefEqProofs := false) [enc_list], by simp (implicitDefEqProofs := false) [enc_list]⟩⟩
            · simp [h1, h2] at hs
              simp (implicitDefEqProofs := false) [enc_list, h1, h2, hk, w1, get_Served s k hk]
              exact ⟨_, _, (hI _ _ _).2 ⟨_, _, rfl, rfl, hs⟩, ⟨0, [], by simp [enc_list], by simp, by simp, by simp (implicitDefEqProofs := false) [enc_list], by simp (implicitDefEqProofs := false) [enc_list]⟩⟩
      · intro f m hi
        obtain ⟨x, a, rfl, rfl, hs⟩ := (hI _ _ _).1 hi
        rw [List.drop_length, busyL] at hs
        refine VW.run good [] ?_; simp (implicitDefEqProofs := false) [enc_list]
        exact ⟨0, [], by simp [enc_list,  hs], by simp, by simp, by simp (implicitDefEqProofs := false) [enc_list,  hs], by simp (implicitDefEqProofs := false) [enc_list,  hs]⟩
    · simp (implicitDefEqProofs := false); refine .ofCut hc (VW.run good [] ?_); simp (implicitDefEqProofs := false) [enc_list]
      by_cases h0 : (busyL s s 0 0).1 = 0
      · simp (implicitDefEqProofs := false) [enc_list, h0, BusyR, hS, he]
      · simp (implicitDefEqProofs := false) [enc_list, h0, BusyR, hS, he]
  · refine VP.run (A := F28) (good) [] (by rw [hE]; rfl) (by simp [F28]) ?_; unfold F28; simp (implicitDefEqProofs := false) [enc_list, hS, he, BusyR]
end Go.RS.CC

/- Walks: the reference (7). -/
namespace Go.RS.CC
open Go Go.RS
open Go.RS.Enc (enc dec)
variable {E : VEnv}
theorem w_soonerR (hE : E.env.fn = G) : Ok E 68 (s2 fun a b => some (sooner a b)) := by
  refine ok2 fun a b r hr => ?_
  cases hr
  refine VP.run (A := F68) (goodV_nil) [] (by rw [hE]; rfl) (by simp [F68]) ?_; unfold F68; simp (implicitDefEqProofs := false) [enc_list]
  repeat' (first | (refine vstep_split (fun hb => ?_) (fun hb => ?_) <;> (try simp only [Bool.not_eq_eq_eq_not, Bool.not_true, Bool.not_false, decide_eq_true_eq, decide_eq_false_iff_not] at hb) <;> simp (implicitDefEqProofs := false) [hb, enc_list]) | (refine vcond_split (fun hb => ?_) (fun hb => ?_) <;> (try simp only [Bool.not_eq_eq_eq_not, Bool.not_true, Bool.not_false, decide_eq_true_eq, decide_eq_false_iff_not] at hb) <;> simp (implicitDefEqProofs := false) [hb, enc_list]))
  all_goals simp [sooner, *]
theorem ServeR_zero {b : Book} {h c : Int} (he : (ServeR b h c).2 = 0) : askedR b h c = 0 ∧ (ServeR b h c).1 = serveR b.Each c [] (hourOf b h) := by
  unfold ServeR at he ⊢
  split
  · rename_i ha; exact ⟨ha, rfl⟩
  · rename_i ha; rw [if_neg ha] at he; exact absurd he ha
theorem w_HeardR (hE : E.env.fn = G) : Ok E 30 (s4 fun b h c k => some (HeardR b h c k)) := by
  refine ok4 fun b h c k r hr => ?_
  cases hr
  have good := goodV_cons (w_ServeR hE) (goodV_cons (w_Lies hE) (goodV_cons (w_To hE) goodV_nil))
  have hl := ServeR_len b h c
  by_cases he : (ServeR b h c).2 = 0
  · obtain ⟨ha, hs⟩ := ServeR_zero he
    obtain ⟨ho, h0, h1, h2, h3⟩ := askedR_zero ha
    have bo := okR_ok ho
    obtain ⟨hm, hh, hd⟩ := hourOf_mem h0 h1
    have hok := ServeR_ok (b := b) (h := h) (c := c)
    have hln : (ServeR b h c).1.length = (hourOf b h).length := by rw [hs, serveR_len]; simp
    have hR : HeardR b h c k = (if wi k 0 (lenm (ServeR b h c).1.length) then
      (if ((ServeR b h c).1.getD k.toNat ⟨0, 0, 0⟩).Joined < 0 then (⟨0, 0⟩, 4)
       else (⟨((ServeR b h c).1.getD k.toNat ⟨0, 0, 0⟩).Left - ((hourOf b h).getD k.toNat ⟨0, 0, 0, 0⟩).Hear * b.Each, ((ServeR b h c).1.getD k.toNat ⟨0, 0, 0⟩).Left - b.Each⟩, 0))
     else (⟨0, 0⟩, 91)) := by unfold HeardR; rw [if_pos he]
    have hS : ServeR b h c = ((ServeR b h c).1, 0) := by rw [← he]
    rw [hR]
    generalize (ServeR b h c).1 = s at *
    by_cases hk : wi k 0 (lenm s.length) = true
    · have hlm : lenm s.length = (s.length : Int) - 1 := wrap64 (by omega) (by omega)
      have hk' := hk
      rw [hlm, wi_iff] at hk'
      have hk0 : 0 ≤ k := hk'.1
      have hks : k.toNat < s.length := by omega
      have hkh : k.toNat < b.Hours[h.toNat].length := by rw [← hd, ← hln]; exact hks
      have hki : k < s.length := by omega
      have hki2 : k < b.Hours[h.toNat].length := by omega
      have gs : s.getD k.toNat ⟨0, 0, 0⟩ = s[k.toNat] := by simp [hks]
      have gh : (hourOf b h).getD k.toNat ⟨0, 0, 0, 0⟩ = b.Hours[h.toNat][k.toNat] := by rw [hd]; simp [hkh]
      rw [if_pos hk, gs, gh]
      obtain ⟨o1, o2, o3, o4, o5⟩ := hok _ (List.getElem_mem hks)
      have hc := (bo.hc _ (List.getElem_mem hh) _ (List.getElem_mem hkh)).1
      obtain ⟨x1, x2, x3, x4, x5, x6⟩ := hc
      have e1 := bo.e1
      have e2 := bo.e2
      have m1 : 0 ≤ b.Hours[h.toNat][k.toNat].Hear * b.Each := Int.mul_nonneg (by omega) (by omega)
      have m2 : b.Hours[h.toNat][k.toNat].Hear * b.Each ≤ 5 * 60 := Int.mul_le_mul (by omega) (by omega) (by omega) (by omega)
      have w1 : IntKind.i64.wrap (b.Hours[h.toNat][k.toNat].Hear * b.Each) = b.Hours[h.toNat][k.toNat].Hear * b.Each := wrap64 (by omega) (by omega)
      have w2 : IntKind.i64.wrap (s[k.toNat].Left - b.Hours[h.toNat][k.toNat].Hear * b.Each) = s[k.toNat].Left - b.Hours[h.toNat][k.toNat].Hear * b.Each := wrap64 (by omega) (by omega)
      have w3 : IntKind.i64.wrap (s[k.toNat].Left - b.Each) = s[k.toNat].Left - b.Each := wrap64 (by omega) (by omega)
      have hk2 : wi k 0 (IntKind.i64.wrap (s.length - 1)) = true := hk
      by_cases hj : s[k.toNat].Joined < 0
      · rw [if_pos hj]
        refine VP.run (A := F30) (good) [] (by rw [hE]; rfl) (by simp [F30]) ?_; unfold F30; simp (implicitDefEqProofs := false) [enc_list, hS, hk2, spliceV, hk0, hki, get_Served s k.toNat hks, hj]
      · rw [if_neg hj]
        refine VP.run (A := F30) (good) [] (by rw [hE]; rfl) (by simp [F30]) ?_; unfold F30; simp (implicitDefEqProofs := false) [enc_list, hS, hk2, spliceV, hk0, hki, hki2, h0, h1, get_Served s k.toNat hks, get_List b.Hours h.toNat hh, get_Call _ k.toNat hkh, hj, w1, w2, w3]
    · rw [if_neg hk]
      have hk : wi k 0 (IntKind.i64.wrap (s.length - 1)) = false := by simpa [lenm] using hk
      refine VP.run (A := F30) (good) [] (by rw [hE]; rfl) (by simp [F30]) ?_; unfold F30; simp (implicitDefEqProofs := false) [enc_list, hS, hk, spliceV]
  · have hR : HeardR b h c k = (⟨0, 0⟩, (ServeR b h c).2) := by unfold HeardR; rw [if_neg he]
    rw [hR]
    generalize hS : ServeR b h c = S at *
    obtain ⟨s, e⟩ := S
    simp at he
    refine VP.run (A := F30) (good) [] (by rw [hE]; rfl) (by simp [F30]) ?_; unfold F30; simp (implicitDefEqProofs := false) [enc_list, hS, he, spliceV]
end Go.RS.CC

/- Walks: the reference (8). -/
namespace Go.RS.CC
open Go Go.RS
open Go.RS.Enc (enc dec)
variable {E : VEnv}
theorem w_ChangeR (hE : E.env.fn = G) : Ok E 34 (s3 fun b h c => some (ChangeR b h c)) := by
  refine ok3 fun b h c r hr => ?_
  · cases hr
    have good := goodV_cons (w_ServeR hE) (goodV_cons (w_soonerR hE) goodV_nil)
    by_cases he : (ServeR b h c).2 = 0
    · by_cases hf : (ServeR b h (c + 1)).2 = 0
      · obtain ⟨ha, hs⟩ := ServeR_zero he
        obtain ⟨hb, ht⟩ := ServeR_zero hf
        have hln := ServeR_len b h c
        have hR : ChangeR b h c = ⟨(chgL 0 (ServeR b h c).1 (ServeR b h (c + 1)).1).1, (chgL 0 (ServeR b h c).1 (ServeR b h (c + 1)).1).2, 0⟩ := by unfold ChangeR; rw [if_pos he, if_pos hf]
        have hS : ServeR b h c = ((ServeR b h c).1, 0) := by rw [← he]
        have hT : ServeR b h (c + 1) = ((ServeR b h (c + 1)).1, 0) := by rw [← hf]
        have hlen : (ServeR b h c).1.length = (ServeR b h (c + 1)).1.length := by rw [hs, ht, serveR_len, serveR_len]
        rw [hR]
        obtain ⟨_, h0, _, c1, c2⟩ := askedR_zero ha
        clear hs ht
        generalize (ServeR b h c).1 = s at *
        generalize (ServeR b h (c + 1)).1 = t at *
        have w0 : IntKind.i64.wrap (c + 1) = c + 1 := wrap64 (by omega) (by omega)
        refine VP.run (A := F34) (good) [] (by rw [hE]; rfl) (by simp [F34]) ?_; unfold F34; simp (implicitDefEqProofs := false) [enc_list, hS, hT, w0]
        refine VW.declare 12 1 (by simp) (VW.declare 13 1 (by simp) ?_)
        refine VW.loop_to 0 [(12, sl1 1 (chgL 0 s t).1), (13, sl1 2 (chgL 0 s t).2)] [.cells (El.cells b), .vec (encL (chgL 0 s t).1), .vec (encL (chgL 0 s t).2)] (True) ?_ (fun hp f m hc => ?_)
        · obtain ⟨Inv, hI⟩ : ∃ Inv : Nat → List (Nat × PV) → VM → Prop, ∀ k f m, Inv k f m ↔ (∃ x y : List Int, f = [(9, enc s), (11, enc t), (12, sl1 1 x), (13, sl1 2 y), (14, .int .i64 k)] ∧ m = [.cells (El.cells b), .vec (encL x), .vec (encL y)] ∧ x.length ≤ k ∧ y.length ≤ k ∧ chgL 0 s t = (x ++ (chgL k (s.drop k) (t.drop k)).1, y ++ (chgL k (s.drop k) (t.drop k)).2)) := ⟨_, fun _ _ _ => Iff.rfl⟩
          refine VW.loop_cut Inv s.length ?_ ?_ ?_
          · exact ⟨_, _, (hI _ _ _).2 ⟨[], [], rfl, rfl, by simp, by simp, rfl⟩, ⟨3, [], by simp [enc_list], by simp, by simp, by simp (implicitDefEqProofs := false) [enc_list], by simp (implicitDefEqProofs := false) [enc_list]⟩⟩
          · intro k f m hk hi
            obtain ⟨x, y, rfl, rfl, hx, hy, hs⟩ := (hI _ _ _).1 hi
            have hk2 : k < t.length := by omega
            have w1 : IntKind.i64.wrap ((k : Int) + 1) = k + 1 := wrap64 (by omega) (by omega)
            have f1 : fits (x.length + 1) 8 = true := fits8 (by omega)
            have f2 : fits (y.length + 1) 8 = true := fits8 (by omega)
            rw [List.drop_eq_getElem_cons hk, List.drop_eq_getElem_cons hk2, chgL] at hs
            simp only [] at hs
            have e1 : (x ++ [(k : Int)]).length = x.length + 1 := by simp
            have e2 : (y ++ [(k : Int)]).length = y.length + 1 := by simp
            refine VW.run good [] ?_; simp (implicitDefEqProofs := false) [enc_list, hk, hk2, w1, f1, f2, spliceV, get_Served s k hk, get_Served t k hk2]
            repeat' (first | (refine vstep_split (fun hb => ?_) (fun hb => ?_) <;> (try simp only [Bool.not_eq_eq_eq_not, Bool.not_true, Bool.not_false, decide_eq_true_eq, decide_eq_false_iff_not] at hb) <;> simp (implicitDefEqProofs := false) [hb, enc_list, hk, hk2, w1, f1, f2, spliceV, get_Served s k hk, get_Served t k hk2]) | (refine vcond_split (fun hb => ?_) (fun hb => ?_) <;> (try simp only [Bool.not_eq_eq_eq_not, Bool.not_true, Bool.not_false, decide_eq_true_eq, decide_eq_false_iff_not] at hb) <;> simp (implicitDefEqProofs := false) [hb, enc_list, hk, hk2, w1, f1, f2, spliceV, get_Served s k hk, get_Served t k hk2]))
            · refine ⟨_, _, (hI _ _ _).2 ⟨x ++ [(k : Int)], y ++ [(k : Int)], rfl, rfl, by omega, by omega, ?_⟩, ⟨3, [], by simp [enc_list,  e1, e2], by simp, by simp, by simp (implicitDefEqProofs := false) [enc_list,  e1, e2], by simp (implicitDefEqProofs := false) [enc_list,  e1, e2]⟩⟩
              rw [hs]; simp [*]
            · refine ⟨_, _, (hI _ _ _).2 ⟨x ++ [(k : Int)], y, rfl, rfl, by omega, by omega, ?_⟩, ⟨3, [], by simp [enc_list,  e1, e2], by simp, by simp, by simp (implicitDefEqProofs := false) [enc_list,  e1, e2], by simp (implicitDefEqProofs := false) [enc_list,  e1, e2]⟩⟩
              rw [hs]; simp [*]
            · refine ⟨_, _, (hI _ _ _).2 ⟨x, y ++ [(k : Int)], rfl, rfl, by omega, by omega, ?_⟩, ⟨3, [], by simp [enc_list,  e1, e2], by simp, by simp, by simp (implicitDefEqProofs := false) [enc_list,  e1, e2], by simp (implicitDefEqProofs := false) [enc_list,  e1, e2]⟩⟩
              rw [hs]; simp [*]
            · refine ⟨_, _, (hI _ _ _).2 ⟨x, y, rfl, rfl, by omega, by omega, ?_⟩, ⟨3, [], by simp [enc_list,  e1, e2], by simp, by simp, by simp (implicitDefEqProofs := false) [enc_list,  e1, e2], by simp (implicitDefEqProofs := false) [enc_list,  e1, e2]⟩⟩
              rw [hs]; simp [*]
          · intro f m hi
            obtain ⟨x, y, rfl, rfl, hx, hy, hs⟩ := (hI _ _ _).1 hi
            rw [List.drop_length] at hs
            have hz : chgL s.length [] (t.drop s.length) = ([], []) := by simp [chgL]
            rw [hz] at hs
            simp at hs
            refine VW.run good [] ?_; simp (implicitDefEqProofs := false) [enc_list]
            exact ⟨3, [], by simp [enc_list,  hs], by simp, by simp, by simp (implicitDefEqProofs := false) [enc_list,  hs], by simp (implicitDefEqProofs := false) [enc_list,  hs]⟩
        · simp (implicitDefEqProofs := false); refine .ofCut hc (VW.run good [] ?_); simp (implicitDefEqProofs := false) [enc_list]
      · have hR : ChangeR b h c = ⟨[], [], (ServeR b h (c + 1)).2⟩ := by unfold ChangeR; rw [if_pos he, if_neg hf]
        obtain ⟨ha, hs⟩ := ServeR_zero he
        obtain ⟨_, h0, _, c1, c2⟩ := askedR_zero ha
        have hS : ServeR b h c = ((ServeR b h c).1, 0) := by rw [← he]
        have w0 : IntKind.i64.wrap (c + 1) = c + 1 := wrap64 (by omega) (by omega)
        rw [hR]
        generalize (ServeR b h c).1 = s at *
        generalize hT : ServeR b h (c + 1) = T at *
        obtain ⟨t, e⟩ := T
        simp at hf
        refine VP.run (A := F34) (good) [] (by rw [hE]; rfl) (by simp [F34]) ?_; unfold F34; simp (implicitDefEqProofs := false) [enc_list, hS, hT, hf, w0]
    · have hR : ChangeR b h c = ⟨[], [], (ServeR b h c).2⟩ := by unfold ChangeR; rw [if_neg he]
      rw [hR]
      generalize hS : ServeR b h c = S at *
      obtain ⟨s, e⟩ := S
      simp at he
      refine VP.run (A := F34) (good) [] (by rw [hE]; rfl) (by simp [F34]) ?_; unfold F34; simp (implicitDefEqProofs := false) [enc_list, hS, he]
end Go.RS.CC

/- Walks: the reference (9). -/
namespace Go.RS.CC
open Go Go.RS
open Go.RS.Enc (enc dec)
variable {E : VEnv}
theorem w_PayR (hE : E.env.fn = G) : Ok E 32 (s3 fun b h c => some (PayR b h c)) := by
  refine ok3 fun b h c r hr => ?_
  cases hr
  have good := goodV_cons (w_ServeR hE) (goodV_cons (w_Ceil hE) goodV_nil)
  by_cases he : (ServeR b h c).2 = 0
  · obtain ⟨ha, hs⟩ := ServeR_zero he
    obtain ⟨ho, h0, h1, h2, h3⟩ := askedR_zero ha
    have bo := okR_ok ho
    obtain ⟨hm, hh, hd⟩ := hourOf_mem h0 h1
    have hok := ServeR_ok (b := b) (h := h) (c := c)
    have hsl := ServeR_len b h c
    have hln : (ServeR b h c).1.length = (hourOf b h).length := by rw [hs, serveR_len]; simp
    have hS : ServeR b h c = ((ServeR b h c).1, 0) := by rw [← he]
    have hR : PayR b h c = ⟨(payL b (hourOf b h) (ServeR b h c).1 (List.replicate b.Shares.length 0) 0).1, (payL b (hourOf b h) (ServeR b h c).1 (List.replicate b.Shares.length 0) 0).2, 0⟩ := by unfold PayR; rw [if_pos he]
    rw [hR]
    clear hs
    generalize (ServeR b h c).1 = s at *
    have s1 := bo.s1
    have s2 := bo.s2
    have hne : b.Shares.length ≠ 0 := by omega
    have hne2 : b.Shares ≠ [] := by intro hx; rw [hx] at hne; exact hne rfl
    have hmk : b.Shares.length * 8 ≤ 1099511627776 ∧ b.Shares.length ≤ 1099511627776 := by omega
    refine VP.run (A := F32) (good) [] (by rw [hE]; rfl) (by simp [F32]) ?_; unfold F32; simp (implicitDefEqProofs := false) [enc_list, hS, hne, hne2, hmk, made_Int']
    have hlb : b.Shares.length ≤ openCap := by have := openCap_eq; omega
    refine VW.loop_to 0 [(11, .sl 1 b.Shares.length 0 b.Shares.length b.Shares.length 1), (12, .int .i64 (payL b (hourOf b h) s (List.replicate b.Shares.length 0) 0).2)] [bkc b, .vec (encL (payL b (hourOf b h) s (List.replicate b.Shares.length 0) 0).1)] ((payL b (hourOf b h) s (List.replicate b.Shares.length 0) 0).1.length = b.Shares.length) ?_ (fun hp f m hc => ?_)
    · obtain ⟨Inv, hI⟩ : ∃ Inv : Nat → List (Nat × PV) → VM → Prop, ∀ k f m, Inv k f m ↔ (∃ (p : List Int) (w : Int), f = [(1, .int .i64 h), (3, .ptr 0 6 0), (9, enc s), (11, .sl 1 b.Shares.length 0 b.Shares.length b.Shares.length 1), (12, .int .i64 w), (13, .int .i64 k)] ∧ m = [bkc b, .vec (encL p)] ∧ p.length = b.Shares.length ∧ (∀ v ∈ p, 0 ≤ v ∧ v ≤ k * 43230200) ∧ 0 ≤ w ∧ w ≤ k * 43230200 ∧ payL b (hourOf b h) s (List.replicate b.Shares.length 0) 0 = payL b ((hourOf b h).drop k) (s.drop k) p w) := ⟨_, fun _ _ _ => Iff.rfl⟩
      refine VW.loop_cut Inv s.length ?_ ?_ ?_
      · exact ⟨_, _, (hI _ _ _).2 ⟨List.replicate b.Shares.length 0, 0, rfl, rfl, by simp, fun v hv => by simp at hv; omega, by omega, by omega, rfl⟩, ⟨2, [], by simp [enc_list], by simp, by simp, by simp (implicitDefEqProofs := false) [enc_list], by simp (implicitDefEqProofs := false) [enc_list]⟩⟩
      · intro k f m hk hi
        obtain ⟨p, w, rfl, rfl, hp, hpv, hw0, hw1, hq⟩ := (hI _ _ _).1 hi
        have hkh : k < b.Hours[h.toNat].length := by rw [← hd, ← hln]; exact hk
        have hkh' : k < (hourOf b h).length := by omega
        have w1 : IntKind.i64.wrap ((k : Int) + 1) = k + 1 := wrap64 (by omega) (by omega)
        have gx : (hourOf b h)[k] = b.Hours[h.toNat][k] := by simp only [hd]
        rw [List.drop_eq_getElem_cons hkh', List.drop_eq_getElem_cons hk, payL, gx] at hq
        obtain ⟨hx, hx1, hx2⟩ := bo.hc _ (List.getElem_mem hh) _ (List.getElem_mem hkh)
        have hsv := hok _ (List.getElem_mem hk)
        obtain ⟨g1, g2, g3, g4, g5, g6⟩ := paysR_rng bo hsv
        have hxn : b.Hours[h.toNat][k].From.toNat < b.Shares.length := by omega
        obtain ⟨g7, g8, g9, g10⟩ := partR_rng bo hsv hxn
        have gsh : b.Shares.getD b.Hours[h.toNat][k].From.toNat 0 = b.Shares[b.Hours[h.toNat][k].From.toNat] := by simp [hxn]
        have hpn : b.Hours[h.toNat][k].From.toNat < p.length := by omega
        have gp : p.getD b.Hours[h.toNat][k].From.toNat 0 = p[b.Hours[h.toNat][k].From.toNat] := by simp [hpn]
        obtain ⟨v1, v2⟩ := hpv _ (List.getElem_mem hpn)
        by_cases hj : s[k].Joined < 0
        · rw [if_pos hj] at hq
          refine VW.run good [] ?_; simp (implicitDefEqProofs := false) [enc_list, hk, w1, get_Served s k hk, hj]
          exact ⟨_, _, (hI _ _ _).2 ⟨p, w, rfl, rfl, hp, fun v hv => by have := hpv v hv; omega, hw0, by omega, hq⟩, ⟨2, [], by simp [enc_list], by simp, by simp, by simp (implicitDefEqProofs := false) [enc_list], by simp (implicitDefEqProofs := false) [enc_list]⟩⟩
        · rw [if_neg hj] at hq
          obtain ⟨j1, j2, l1, l2, d⟩ := hsv
          have u1 := bo.u1
          have u2 := bo.u2
          have k1 : IntKind.i64.wrap (s[k].Left - s[k].Joined) = s[k].Left - s[k].Joined := wrap64 (by omega) (by omega)
          have k2 : ceilF (s[k].Left - s[k].Joined) b.Unit = some (-(-(s[k].Left - s[k].Joined) / b.Unit)) := if_pos ⟨by omega, by omega, by omega, by omega⟩
          have k3 : IntKind.i64.wrap (b.Rate * (-(-(s[k].Left - s[k].Joined) / b.Unit))) = b.Rate * (-(-(s[k].Left - s[k].Joined) / b.Unit)) := wrap64 (by omega) (by omega)
          have k4 : IntKind.i64.wrap (b.Fee + b.Rate * (-(-(s[k].Left - s[k].Joined) / b.Unit))) = paysR b s[k] := wrap64 (by unfold paysR at g5; omega) (by unfold paysR at g6; omega)
          have hxi : b.Hours[h.toNat][k].From < b.Shares.length := hx2
          have hxp : b.Hours[h.toNat][k].From < p.length := by omega
          have k5 : IntKind.i64.wrap (paysR b s[k] * b.Shares[b.Hours[h.toNat][k].From.toNat]) = paysR b s[k] * b.Shares[b.Hours[h.toNat][k].From.toNat] := by rw [← gsh]; exact wrap64 (by omega) (by omega)
          have k6 : IntKind.i64.wrap ((paysR b s[k] * b.Shares[b.Hours[h.toNat][k].From.toNat]).tdiv 100) = partR b b.Hours[h.toNat][k] s[k] := by
            rw [← gsh, Int.tdiv_eq_ediv_of_nonneg g7]; exact wrap64 (by unfold partR at g9; omega) (by unfold partR at g10; omega)
          have k7 : IntKind.i64.wrap (p[b.Hours[h.toNat][k].From.toNat] + partR b b.Hours[h.toNat][k] s[k]) = p[b.Hours[h.toNat][k].From.toNat] + partR b b.Hours[h.toNat][k] s[k] := wrap64 (by omega) (by omega)
          have k8 : IntKind.i64.wrap (paysR b s[k] - partR b b.Hours[h.toNat][k] s[k]) = paysR b s[k] - partR b b.Hours[h.toNat][k] s[k] := wrap64 (by omega) (by omega)
          have k9 : IntKind.i64.wrap (w + (paysR b s[k] - partR b b.Hours[h.toNat][k] s[k])) = w + (paysR b s[k] - partR b b.Hours[h.toNat][k] s[k]) := wrap64 (by omega) (by omega)
          have hpos : 0 < b.Shares.length := by omega
          have hxle : b.Hours[h.toNat][k].From.toNat + 1 ≤ b.Shares.length := hxn
          refine VW.run good [] ?_; simp (implicitDefEqProofs := false) [enc_list, hk, w1, get_Served s k hk, hj, k1, k2, k3, k4, k5, k6, k7, k8, k9, h0, h1, hh, hkh, hx1, hx2, hxi, hpos, hp, hxle, get_List _ h.toNat hh, get_Call _ k hkh, get_Int _ _ hxn, at_Int _ _ hpn, splice_Int _ _ _ hpn]
          rw [gp] at hq
          refine ⟨_, _, (hI _ _ _).2 ⟨p.set b.Hours[h.toNat][k].From.toNat (p[b.Hours[h.toNat][k].From.toNat] + partR b b.Hours[h.toNat][k] s[k]), w + (paysR b s[k] - partR b b.Hours[h.toNat][k] s[k]), rfl, rfl, by simpa using hp, fun v hv => ?_, by omega, by omega, hq⟩, ⟨2, [], by simp [enc_list], by simp, by simp, by simp (implicitDefEqProofs := false) [enc_list], by simp (implicitDefEqProofs := false) [enc_list]⟩⟩
          rcases List.mem_or_eq_of_mem_set hv with hv | hv
          · have := hpv v hv; omega
          · omega
      · intro f m hi
        obtain ⟨p, w, rfl, rfl, hp, hpv, hw0, hw1, hq⟩ := (hI _ _ _).1 hi
        rw [List.drop_length] at hq
        have : payL b ((hourOf b h).drop s.length) [] p w = (p, w) := by cases (hourOf b h).drop s.length <;> rfl
        rw [this] at hq
        refine VW.run good [] ?_; simp (implicitDefEqProofs := false) [enc_list]
        rw [hq]
        refine ⟨?_, 2, [], by simp [enc_list], by simp, by simp, by simp (implicitDefEqProofs := false) [enc_list], by simp (implicitDefEqProofs := false) [enc_list]⟩
        exact hp
    · simp (implicitDefEqProofs := false); refine .ofCut hc (VW.run good [] ?_); simp (implicitDefEqProofs := false) [enc_list, lefm_Int', hp, hlb]
  · have hR : PayR b h c = ⟨[], 0, (ServeR b h c).2⟩ := by unfold PayR; rw [if_neg he]
    rw [hR]
    generalize hS : ServeR b h c = S at *
    obtain ⟨s, e⟩ := S
    simp at he
    refine VP.run (A := F32) (good) [] (by rw [hE]; rfl) (by simp [F32]) ?_; unfold F32; simp (implicitDefEqProofs := false) [enc_list, hS, he]
end Go.RS.CC

/- Walks: the reference (10). -/
namespace Go.RS.CC
open Go Go.RS
open Go.RS.Enc (enc dec)
variable {E : VEnv}
theorem w_WhichR (hE : E.env.fn = G) : Ok E 36 (s4 fun b h n t => some (WhichR b h n t)) := by
  refine ok4 fun b h many secs r hr => ?_
  cases hr
  have good := goodV_cons (w_askedR hE) (goodV_cons (w_serve hE) goodV_nil)
  by_cases ha : askedR b h 1 = 0
  · obtain ⟨ho, h0, h1, _, _⟩ := askedR_zero ha
    have bo := okR_ok ho
    obtain ⟨hm, hh, hd⟩ := hourOf_mem h0 h1
    have hR : WhichR b h many secs = (whL (testR b (hourOf b h) many secs) 20 1, 0) := by unfold WhichR; rw [if_pos ha]
    rw [hR]
    generalize hT : whL (testR b (hourOf b h) many secs) 20 1 = T
    refine VP.run (A := F36) (good) [] (by rw [hE]; rfl) (by simp [F36]) ?_; unfold F36; simp (implicitDefEqProofs := false) [enc_list, ha]
    refine VW.declare 11 1 (by simp) ?_
    refine VW.loop_to 0 [(11, sl1 1 T)] [bkc b, .vec (encL T)] (True) ?_ (fun hp f m hc => ?_)
    · obtain ⟨Inv, hI⟩ : ∃ Inv : Nat → List (Nat × PV) → VM → Prop, ∀ i f m, Inv i f m ↔ (∃ out : List Int, f = [(1, .int .i64 h), (2, .int .i64 many), (3, .int .i64 secs), (4, .ptr 0 6 0), (11, sl1 1 out), (12, .int .i64 (i + 1))] ∧ m = [bkc b, .vec (encL out)] ∧ out.length ≤ i ∧ T = out ++ whL (testR b (hourOf b h) many secs) (20 - i) (i + 1)) := ⟨_, fun _ _ _ => Iff.rfl⟩
      refine VW.loop_cut Inv 20 ?_ ?_ ?_
      · exact ⟨_, _, (hI _ _ _).2 ⟨[], rfl, rfl, by simp, by simpa using hT.symm⟩, ⟨2, [], by simp [enc_list], by simp, by simp, by simp (implicitDefEqProofs := false) [enc_list], by simp (implicitDefEqProofs := false) [enc_list]⟩⟩
      · intro i f m hil hi
        obtain ⟨out, rfl, rfl, hol, hs⟩ := (hI _ _ _).1 hi
        have hF := serveF_eq bo (List.getElem_mem hh) (c := (i : Int) + 1) (by omega) (by omega)
        have hle : (i : Int) + 1 ≤ 20 := by omega
        have hsl : (serveR b.Each ((i : Int) + 1) [] b.Hours[h.toNat]).length ≤ 12 := by rw [serveR_len]; have := bo.hl _ (List.getElem_mem hh); simpa using this
        have hok : ∀ s ∈ serveR b.Each ((i : Int) + 1) [] b.Hours[h.toNat], SvOk s := fun s hs => by
          rcases serveR_mem hs with hs | ⟨x, hx, o, rfl⟩
          · cases hs
          · exact oneR_ok bo.e1 bo.e2 (bo.hc _ (List.getElem_mem hh) x hx).1
        have htest : testR b (hourOf b h) many secs ((i : Int) + 1) = (decide ((cntL (serveR b.Each ((i : Int) + 1) [] b.Hours[h.toNat]) 0 0).1 = many) && decide ((cntL (serveR b.Each ((i : Int) + 1) [] b.Hours[h.toNat]) 0 0).2 = secs)) := by rw [testR, hd]
        have e1 : 20 - i = (20 - (i + 1)) + 1 := by omega
        rw [e1, whL, htest] at hs
        refine VW.run good [] ?_; simp (implicitDefEqProofs := false) [enc_list, hle, h0, h1, hh, get_List _ h.toNat hh, hF]
        generalize serveR b.Each ((i : Int) + 1) [] b.Hours[h.toNat] = s at *
        refine VW.loop_to 2 [(1, .int .i64 h), (2, .int .i64 many), (3, .int .i64 secs), (4, .ptr 0 6 0), (11, sl1 1 out), (12, .int .i64 (i + 1)), (14, .int .i64 (cntL s 0 0).1), (15, .int .i64 (cntL s 0 0).2)] [bkc b, .vec (encL out)] (True) ?_ (fun hp f m hc => ?_)
        · clear hI hi hs htest
          obtain ⟨Inv, hI⟩ : ∃ Inv : Nat → List (Nat × PV) → VM → Prop, ∀ k f m, Inv k f m ↔ (∃ n t : Int, f = [(1, .int .i64 h), (2, .int .i64 many), (3, .int .i64 secs), (4, .ptr 0 6 0), (11, sl1 1 out), (12, .int .i64 (i + 1)), (13, enc s), (14, .int .i64 n), (15, .int .i64 t), (16, .int .i64 k)] ∧ m = [bkc b, .vec (encL out)] ∧ 0 ≤ n ∧ n ≤ k ∧ 0 ≤ t ∧ t ≤ k * 432301 ∧ cntL s 0 0 = cntL (s.drop k) n t) := ⟨_, fun _ _ _ => Iff.rfl⟩
          refine VW.loop_cut Inv s.length ?_ ?_ ?_
          · exact ⟨_, _, (hI _ _ _).2 ⟨0, 0, rfl, rfl, by omega, by omega, by omega, by omega, rfl⟩, ⟨2, [], by simp [enc_list], by simp, by simp, by simp (implicitDefEqProofs := false) [enc_list], by simp (implicitDefEqProofs := false) [enc_list]⟩⟩
          · intro k f m hk hi
            obtain ⟨n, t, rfl, rfl, n1, n2, t1, t2, hc⟩ := (hI _ _ _).1 hi
            obtain ⟨j1, j2, l1, l2, d⟩ := hok _ (List.getElem_mem hk)
            have w1 : IntKind.i64.wrap ((k : Int) + 1) = k + 1 := wrap64 (by omega) (by omega)
            rw [List.drop_eq_getElem_cons hk, cntL] at hc
            have w2 : IntKind.i64.wrap (n + 1) = n + 1 := wrap64 (by omega) (by omega)
            have w3 : IntKind.i64.wrap (s[k].Left - s[k].Joined) = s[k].Left - s[k].Joined := wrap64 (by omega) (by omega)
            have w4 : IntKind.i64.wrap (t + (s[k].Left - s[k].Joined)) = t + (s[k].Left - s[k].Joined) := wrap64 (by omega) (by omega)
            by_cases hj : 0 ≤ s[k].Joined
            · rw [if_pos hj] at hc
              refine VW.run good [] ?_; simp (implicitDefEqProofs := false) [enc_list, hk, get_Served s k hk, w1, w2, w3, w4, hj]
              exact ⟨_, _, (hI _ _ _).2 ⟨n + 1, t + (s[k].Left - s[k].Joined), rfl, rfl, by omega, by omega, by omega, by omega, hc⟩, ⟨2, [], by simp [enc_list], by simp, by simp, by simp (implicitDefEqProofs := false) [enc_list], by simp (implicitDefEqProofs := false) [enc_list]⟩⟩
            · rw [if_neg hj] at hc
              refine VW.run good [] ?_; simp (implicitDefEqProofs := false) [enc_list, hk, get_Served s k hk, w1, w2, w3, w4, hj]
              exact ⟨_, _, (hI _ _ _).2 ⟨n, t, rfl, rfl, by omega, by omega, by omega, by omega, hc⟩, ⟨2, [], by simp [enc_list], by simp, by simp, by simp (implicitDefEqProofs := false) [enc_list], by simp (implicitDefEqProofs := false) [enc_list]⟩⟩
          · intro f m hi
            obtain ⟨n, t, rfl, rfl, n1, n2, t1, t2, hc⟩ := (hI _ _ _).1 hi
            rw [List.drop_length, cntL] at hc
            refine VW.run good [] ?_; simp (implicitDefEqProofs := false) [enc_list]
            exact ⟨2, [], by simp [enc_list,  hc], by simp, by simp, by simp (implicitDefEqProofs := false) [enc_list,  hc], by simp (implicitDefEqProofs := false) [enc_list,  hc]⟩
        · have w1 : IntKind.i64.wrap ((i : Int) + 1 + 1) = i + 1 + 1 := wrap64 (by omega) (by omega)
          have f1 : fits (out.length + 1) 8 = true := fits8 (by omega)
          have e2 : (out ++ [(i : Int) + 1]).length = out.length + 1 := by simp
          simp (implicitDefEqProofs := false); refine .ofCut hc (VW.run good [] ?_); simp (implicitDefEqProofs := false) [enc_list]
          by_cases h1 : (cntL s 0 0).1 = many
          · by_cases h2 : (cntL s 0 0).2 = secs
            · simp (implicitDefEqProofs := false) [enc_list, h1, h2, f1, spliceV]
              refine VW.run good [] ?_; simp (implicitDefEqProofs := false) [enc_list, w1]
              simp [h1, h2] at hs
              exact ⟨_, _, (hI _ _ _).2 ⟨out ++ [(i : Int) + 1], rfl, rfl, by omega, by rw [hs]; simp⟩, ⟨2, [], by simp [enc_list,  e2], by simp, by simp, by simp (implicitDefEqProofs := false) [enc_list,  e2], by simp (implicitDefEqProofs := false) [enc_list,  e2]⟩⟩
            · simp (implicitDefEqProofs := false) [enc_list, h1, h2, f1, spliceV]
              refine VW.run good [] ?_; simp (implicitDefEqProofs := false) [enc_list, w1]
              simp [h1, h2] at hs
              exact ⟨_, _, (hI _ _ _).2 ⟨out, rfl, rfl, by omega, by rw [hs]; simp⟩, ⟨2, [], by simp [enc_list], by simp, by simp, by simp (implicitDefEqProofs := false) [enc_list], by simp (implicitDefEqProofs := false) [enc_list]⟩⟩
          · simp (implicitDefEqProofs := false) [enc_list, h1]
            refine VW.run good [] ?_; simp (implicitDefEqProofs := false) [enc_list, w1]
            simp [h1] at hs
            exact ⟨_, _, (hI _ _ _).2 ⟨out, rfl, rfl, by omega, by rw [hs]; simp⟩, ⟨2, [], by simp [enc_list], by simp, by simp, by simp (implicitDefEqProofs := false) [enc_list], by simp (implicitDefEqProofs := false) [enc_list]⟩⟩
      · intro f m hi
        obtain ⟨out, rfl, rfl, hol, hs⟩ := (hI _ _ _).1 hi
        simp [whL] at hs
        refine VW.run good [] ?_; simp (implicitDefEqProofs := false) [enc_list]
        exact ⟨2, [], by simp [enc_list,  hs], by simp, by simp, by simp (implicitDefEqProofs := false) [enc_list,  hs], by simp (implicitDefEqProofs := false) [enc_list,  hs]⟩
    · simp (implicitDefEqProofs := false); refine .ofCut hc (VW.run good [] ?_); simp (implicitDefEqProofs := false) [enc_list]
  · have hR : WhichR b h many secs = ([], askedR b h 1) := by unfold WhichR; rw [if_neg ha]
    rw [hR]
    refine VP.run (A := F36) (good) [] (by rw [hE]; rfl) (by simp [F36]) ?_; unfold F36; simp (implicitDefEqProofs := false) [enc_list, ha]
end Go.RS.CC

