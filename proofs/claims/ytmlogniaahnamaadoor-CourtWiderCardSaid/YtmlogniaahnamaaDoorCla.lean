/- Law walks: court (1): the chapter's examples. -/
import Derived.Test.YtmlogniaahnamaaDoorCwd
import Derived.Test.YtmlogniaahnamaaDoorDxc
import Derived.KernelRfl
set_option linter.all false
namespace Go.RS.DC
open Go Go.RS
open Go.RS.Enc (enc dec)
variable {E : VEnv}
theorem k_reading (hE : E.env.fn = G) : Ok E 28 (s3 fun a b d => some (Reading.mk 0 a b d)) := by
  refine ok3 fun a b d r hr => ?_
  cases hr
  refine VP.run (A := F28) (goodV_nil) [] (by rw [hE]; rfl) (by simp [F28]) ?_; unfold F28; simp (implicitDefEqProofs := false) [enc_list, spliceV]
theorem k_heard (hE : E.env.fn = G) : Ok E 55 (s2 fun (a : Int) (r : Reading) => some (Entry.mk ⟨a, a⟩ ⟨0, 0⟩ r)) := by
  refine ok2 fun a r q hr => ?_
  cases hr
  refine VP.run (A := F55) ((goodV_cons (w_To hE) goodV_nil)) [] (by rw [hE]; rfl) (by simp [F55]) ?_; unfold F55; simp (implicitDefEqProofs := false) [enc_list, spliceV]
def tornK : List Entry := [⟨⟨7, 7⟩, ⟨0, 0⟩, ⟨0, 0, 0, 7⟩⟩]
theorem k_torn (hE : E.env.fn = G) : Ok E 31 (s0 (some tornK)) := by
  refine ok0 fun q hr => ?_
  cases hr
  refine VP.run (A := F31) ((goodV_cons (k_reading hE) (goodV_cons (k_heard hE) goodV_nil))) [] (by rw [hE]; rfl) (by simp [F31]) ?_; unfold F31; simp (implicitDefEqProofs := false) [enc_list, spliceV, tornK]
  exact .inl rfl
def hearK (l : List Entry) : Case := ⟨⟨2, 2, 10, 1, []⟩, ⟨0, [⟨20, -1⟩]⟩, 10, 1, ⟨-1, 1⟩, [⟨⟨5, 5⟩, ⟨0, 0⟩, ⟨0, 0, 0, 6⟩⟩, ⟨⟨33, 34⟩, ⟨2, 2⟩, ⟨0, 1, 0, 2⟩⟩] ++ l⟩
def hearF (l : List Entry) : Option Case := if l.length ≤ 1 then some (hearK l) else none
set_option maxRecDepth 20000 in
theorem k_hearing (hE : E.env.fn = G) : Ok E 25 (s1 hearF) := by
  refine ok1 fun l q hr => ?_
  unfold hearF at hr
  split at hr
  · rename_i hl
    cases hr
    have good := goodV_cons (k_reading hE) (goodV_cons (k_heard hE) (goodV_cons (w_To hE) goodV_nil))
    have hf2 : fits 2 64 = true := by decide
    have hf3 : fits 3 64 = true := by decide
    match l, hl with
    | [], _ =>
      refine VP.run (A := F25) (good) [] (by rw [hE]; rfl) (by simp [F25]) ?_; unfold F25; simp (implicitDefEqProofs := false) [enc_list, spliceV, hearK, appendV, newVec, okE, elemsV, hf2]
      exact ⟨.inl rfl, .inl rfl⟩
    | [e], _ =>
      have he : encL [e] = entC e := rfl
      refine VP.run (A := F25) (good) [] (by rw [hE]; rfl) (by simp [F25]) ?_; unfold F25; simp (implicitDefEqProofs := false) [enc_list, spliceV, hearK, appendV, newVec, okE, elemsV, hf3, he]
      exact ⟨.inl rfl, of_eq_true (le_fzSl (α := Entry) _ 2 [⟨⟨5, 5⟩, ⟨0, 0⟩, ⟨0, 0, 0, 6⟩⟩, ⟨⟨33, 34⟩, ⟨2, 2⟩, ⟨0, 1, 0, 2⟩⟩, e] rfl (by decide))⟩
  · cases hr
def allF (a b : List Int) : Bool := a.all fun x => decide (0 ≤ findR x 0 b)
theorem k_all (hE : E.env.fn = G) : Ok E 16 (s2 fun (a b : List Int) => some (allF a b)) := by
  refine ok2 fun a b r hr => ?_
  cases hr
  refine VP.bound fun hb => ?_
  simp [enc_list] at hb
  generalize hT : allF a b = T
  have good := goodV_cons (w_Find hE) goodV_nil
  refine VP.run (A := F16) (good) [] (by rw [hE]; rfl) (by simp [F16]) ?_; unfold F16; simp (implicitDefEqProofs := false) [enc_list]
  refine VW.loop_to 0 [] [] (T = true) ?_ (fun hp f m hc => ?_)
  · obtain ⟨Inv, hI⟩ : ∃ Inv : Nat → List (Nat × PV) → VM → Prop, ∀ k f m, Inv k f m ↔ (f = [(0, enc a), (1, enc b), (5, .int .i64 k)] ∧ m = [] ∧ allF (a.drop k) b = T) := ⟨_, fun _ _ _ => Iff.rfl⟩
    refine VW.loop_cut Inv a.length ?_ ?_ ?_
    · exact ⟨_, _, (hI _ _ _).2 ⟨rfl, rfl, by rw [List.drop_zero]; exact hT⟩, ⟨0, [], by simp [enc_list], by simp, by simp, by simp (implicitDefEqProofs := false) [enc_list], by simp (implicitDefEqProofs := false) [enc_list]⟩⟩
    · intro k f m hk hi
      obtain ⟨rfl, rfl, hs⟩ := (hI _ _ _).1 hi
      have w1 : IntKind.i64.wrap ((k : Int) + 1) = k + 1 := wrap64 (by omega) (by omega)
      have hk' : (k : Int) < a.length := by omega
      rw [List.drop_eq_getElem_cons hk] at hs
      have hg := get_Int a k hk
      generalize a[k] = y at *
      have hs : (decide (0 ≤ findR y 0 b) && allF (a.drop (k + 1)) b) = T := hs
      by_cases h : findR y 0 b < 0
      · rw [decide_eq_false (by omega), Bool.false_and] at hs
        subst hs
        refine VW.run good [] ?_; simp (implicitDefEqProofs := false) [enc_list, hk, hk', hg, w1, h]
      · rw [decide_eq_true (by omega), Bool.true_and] at hs
        refine VW.run good [] ?_; simp (implicitDefEqProofs := false) [enc_list, hk, hk', hg, w1, h]
        exact ⟨_, _, (hI _ _ _).2 ⟨rfl, rfl, hs⟩, ⟨0, [], by simp [enc_list], by simp, by simp, by simp (implicitDefEqProofs := false) [enc_list], by simp (implicitDefEqProofs := false) [enc_list]⟩⟩
    · intro f m hi
      obtain ⟨rfl, rfl, hs⟩ := (hI _ _ _).1 hi
      rw [List.drop_length] at hs
      refine VW.run good [] ?_; simp (implicitDefEqProofs := false) [enc_list]
      exact ⟨hs.symm, ⟨0, [], by simp [enc_list], by simp, by simp, by simp (implicitDefEqProofs := false) [enc_list], by simp (implicitDefEqProofs := false) [enc_list]⟩⟩
  · simp (implicitDefEqProofs := false); refine .ofCut hc (VW.run good [] ?_); simp (implicitDefEqProofs := false) [enc_list, hp]
end Go.RS.DC

/- Law walks: court (2): the chapter's examples, computed. -/
namespace Go.RS.DC
open Go Go.RS
open Go.RS.Enc (enc dec)
def toldR (k lo hi : Int) (r : Reading) (t : Int) : Int := if (VerdictR (hearK []) ⟨k, ⟨lo, hi⟩, r, t⟩).2 = 0 then (VerdictR (hearK []) ⟨k, ⟨lo, hi⟩, r, t⟩).1 else -1
theorem ev_is : IsTruthR (hearK []) [1, 2, 1, 0] = (true, 0) := by decide +kernel
theorem ev_err : ErrorsR (hearK []) 25 = ([-1, 0, 1, 2], 0) := by decide +kernel
theorem ev_sh : ShownR (hearK []) 35 = ([⟨0, 1, 0, 5⟩, ⟨0, 1, 0, 6⟩], 0) := by decide +kernel
theorem ev_when : WhenF (hearK []) ⟨0, 0, 1, 5⟩ = some ([13, 14, 15, 23, 24, 25, 26], 0) := by
  have h1 : WhenR (hearK []) ⟨0, 0, 1, 5⟩ = ([13, 14, 15, 23, 24, 25, 26], 0) := by decide +kernel
  have h2 : (rawL (hearK []) ⟨0, 0, 1, 5⟩).Nodup ∧ (rawL (hearK []) ⟨0, 0, 1, 5⟩).length ≤ 12 := by decide +kernel
  unfold WhenF
  rw [if_pos (fun _ => h2), h1]
theorem ev_truth : ∃ l, TruthR (hearK []) = (l, 0) ∧ l.length = 4 := by
  have h : (TruthR (hearK [])).1.length = 4 ∧ (TruthR (hearK [])).2 = 0 := by decide +kernel
  exact ⟨_, Prod.ext rfl h.2, h.1⟩
theorem ev_wrong : WrongR (hearK tornK) = ([0], 0) := by decide +kernel
theorem ev_t1 : VerdictR (hearK []) ⟨0, ⟨10, 19⟩, ⟨0, 0, 1, 5⟩, 0⟩ = (2, 0) := by decide +kernel
theorem ev_t2 : VerdictR (hearK []) ⟨0, ⟨15, 15⟩, ⟨0, 0, 1, 5⟩, 0⟩ = (1, 0) := by decide +kernel
theorem ev_t3 : VerdictR (hearK []) ⟨0, ⟨35, 35⟩, ⟨0, 1, 0, 9⟩, 0⟩ = (0, 0) := by decide +kernel
theorem ev_t4 : VerdictR (hearK []) ⟨1, ⟨0, 9⟩, ⟨0, 0, 0, 0⟩, 1⟩ = (2, 0) := by decide +kernel
theorem ev_t5 : VerdictR (hearK []) ⟨2, ⟨0, 39⟩, ⟨0, 0, 0, 0⟩, 2⟩ = (2, 0) := by decide +kernel
end Go.RS.DC

/- Law walks: court (3): told, works. -/
namespace Go.RS.DC
open Go Go.RS
open Go.RS.Enc (enc dec)
variable {E : VEnv}
section
variable {A B C D F R : Type} [Enc A] [Enc B] [Enc C] [Enc D] [Enc F] [Enc R]
def s5 (T : A → B → C → D → F → Option R) : List PV → Option PV | [a, b, c, d, e] => (dec a).bind fun a => (dec b).bind fun b => (dec c).bind fun c => (dec d).bind fun d => (dec e).bind fun e => (T a b c d e).map enc | _ => none
@[simp] theorem s5_app (T : A → B → C → D → F → Option R) (a b c d e : PV) : s5 T [a, b, c, d, e] = (dec a).bind fun a => (dec b).bind fun b => (dec c).bind fun c => (dec d).bind fun d => (dec e).bind fun e => (T a b c d e).map enc := rfl
theorem ok5 {f : Nat} {T : A → B → C → D → F → Option R} (h : ∀ a b c d e r, T a b c d e = some r → VP E f [enc a, enc b, enc c, enc d, enc e] (enc r)) : Ok E f (s5 T) := fun args r hr => by
  match args, hr with
  | [a, b, c, d, e], hr =>
    simp only [s5, Option.bind_eq_some_iff, Option.map_eq_some_iff] at hr
    obtain ⟨a', ha, b', hb, c', hc, d', hd, e', he, x, h1, rfl⟩ := hr
    exact (h a' b' c' d' e' x h1).args ⟨Enc.dec_le ha, Enc.dec_le hb, Enc.dec_le hc, Enc.dec_le hd, Enc.dec_le he, trivial⟩
end
@[simp] theorem eta_Claim3 (x : Claim) : Claim.mk x.Kind ⟨x.When.Low, x.When.High⟩ ⟨x.Reading.Day, x.Reading.Hour, x.Reading.Minute, x.Reading.Second⟩ x.Ticks = x := rfl
theorem k_told (hE : E.env.fn = G) (hgl : E.gl 1 = some [f130v, f131v]) (hgk : E.gl 0 = some kindsV) : Ok E 32 (s5 fun k lo hi (r : Reading) t => some (toldR k lo hi r t)) := by
  refine ok5 fun k lo hi r t q hr => ?_
  cases hr
  have good := goodV_cons (k_hearing hE) (goodV_cons (w_To hE) (goodV_cons (k_Verdict hE hgl hgk) goodV_nil))
  have hh : hearF [] = some (hearK []) := rfl
  obtain ⟨v, e, hv⟩ : ∃ v e, VerdictR (hearK []) ⟨k, ⟨lo, hi⟩, r, t⟩ = (v, e) := ⟨_, _, rfl⟩
  unfold toldR
  rw [hv]
  by_cases he : e = 0
  · subst he
    refine VP.run (A := F32) (good) [] (by rw [hE]; rfl) (by simp [F32]) ?_; unfold F32; simp (implicitDefEqProofs := false) [enc_list, hh, hv, spliceV]
    done
  · refine VP.run (A := F32) (good) [] (by rw [hE]; rfl) (by simp [F32]) ?_; unfold F32; simp (implicitDefEqProofs := false) [enc_list, hh, hv, he, spliceV]
    done
end Go.RS.DC

/- Law walks: court (4): works. -/
namespace Go.RS.DC
open Go Go.RS
open Go.RS.Enc (enc dec)
variable {E : VEnv}
set_option maxHeartbeats 3200000 in
set_option maxRecDepth 20000 in
theorem k_works (hE : E.env.fn = G) (hgl : E.gl 1 = some [f130v, f131v]) (hgk : E.gl 0 = some kindsV) : Ok E 10 (s0 (some true)) := by
  refine ok0 fun q hr => ?_
  cases hr
  have good := goodV_cons (k_hearing hE) (goodV_cons (k_reading hE) (goodV_cons (k_torn hE) (goodV_cons (k_told hE hgl hgk) (goodV_cons (k_IsTruth hE hgl) (goodV_cons (k_Errors hE hgl) (goodV_cons (k_Shown hE hgl) (goodV_cons (k_When hE hgl) (goodV_cons (k_Truth hE hgl) (goodV_cons (k_Wrong hE hgl) (goodV_cons (w_Alike hE) goodV_nil))))))))))
  have hh : hearF [] = some (hearK []) := rfl
  have hh2 : hearF tornK = some (hearK tornK) := rfl
  have e1 := ev_is
  have e2 := ev_err
  have e3 := ev_sh
  have e4 := ev_when
  obtain ⟨tl, e5, e6⟩ := ev_truth
  have e7 := ev_wrong
  have t1 : toldR 0 10 19 ⟨0, 0, 1, 5⟩ 0 = 2 := by unfold toldR; rw [ev_t1]; rfl
  have t2 : toldR 0 15 15 ⟨0, 0, 1, 5⟩ 0 = 1 := by unfold toldR; rw [ev_t2]; rfl
  have t3 : toldR 0 35 35 ⟨0, 1, 0, 9⟩ 0 = 0 := by unfold toldR; rw [ev_t3]; rfl
  have t4 : toldR 1 0 9 ⟨0, 0, 0, 0⟩ 1 = 2 := by unfold toldR; rw [ev_t4]; rfl
  have t5 : toldR 2 0 39 ⟨0, 0, 0, 0⟩ 2 = 2 := by unfold toldR; rw [ev_t5]; rfl
  have d1 : (dec (PV.lst true 4 1 [PV.int .i64 1, PV.int .i64 2, PV.int .i64 1, PV.int .i64 0]) : Option (List Int)) = some [1, 2, 1, 0] := dec_lst true ([1, 2, 1, 0] : List Int)
  have d2 : (dec (PV.lst true 4 1 [PV.int .i64 (-1), PV.int .i64 0, PV.int .i64 1, PV.int .i64 2]) : Option (List Int)) = some [-1, 0, 1, 2] := dec_lst true ([-1, 0, 1, 2] : List Int)
  have d3 : (dec (PV.lst true 7 1 [PV.int .i64 13, PV.int .i64 14, PV.int .i64 15, PV.int .i64 23, PV.int .i64 24, PV.int .i64 25, PV.int .i64 26]) : Option (List Int)) = some [13, 14, 15, 23, 24, 25, 26] := dec_lst true ([13, 14, 15, 23, 24, 25, 26] : List Int)
  have d4 : (dec (PV.lst true 1 1 [PV.int .i64 0]) : Option (List Int)) = some [0] := dec_lst true ([0] : List Int)
  have hc1 : (dec (enc (hearK [])) : Option Case) = some (hearK []) := Enc.dec_enc _
  have hc2 : (dec (enc (hearK tornK)) : Option Case) = some (hearK tornK) := Enc.dec_enc _
  generalize hearK [] = H at *
  generalize hearK tornK = H2 at *
  refine VP.func (A := F10) (by rw [hE]; rfl) (by simp [F10]) ?_; unfold F10
  refine VW.seq (VW.run good [] ?_); simp (implicitDefEqProofs := false) [enc_list]
  refine VW.seq (VW.run good [] ?_); simp (implicitDefEqProofs := false) [enc_list, spliceV, hh, e1, d1]
  refine VW.seq (VW.run good [] ?_); simp (implicitDefEqProofs := false) [enc_list, spliceV, hh, e2]
  refine VW.seq (VW.run good [] ?_); simp (implicitDefEqProofs := false) [enc_list, spliceV, hh, e3]
  refine VW.seq (VW.run good [] ?_); simp (implicitDefEqProofs := false) [enc_list, spliceV, hh, e4]
  have g1 : List.drop 4 (encL ([⟨0, 1, 0, 5⟩, ⟨0, 1, 0, 6⟩] : List Reading)) = [.int .i64 0, .int .i64 1, .int .i64 0, .int .i64 6] := rfl
  refine VW.seq (VW.run good [] ?_); simp (implicitDefEqProofs := false) [enc_list, spliceV, d2, d3, g1]
  refine VW.seq (VW.run good [] ?_); simp (implicitDefEqProofs := false) [enc_list, spliceV, hh, e5]
  have hn0 : (dec PV.nilS : Option (List Entry)) = some [] := rfl
  refine VW.seq (VW.run good [] ?_); simp (implicitDefEqProofs := false) [enc_list, spliceV, hh2, e7]
  refine VW.run good [] ?_; simp (implicitDefEqProofs := false) [enc_list, spliceV, e6, d4, t1, t2, t3, t4, t5]
  done
end Go.RS.DC

/- Law walks: court (5): sound. -/
namespace Go.RS.DC
open Go Go.RS
open Go.RS.Enc (enc dec)
variable {E : VEnv}
theorem v_Valid (hE : E.env.fn = G) : Ok E 35 (s3 fun (s : Span) a b => some (spanOk s a b)) := by
  refine ok3 fun s a b r hr => ?_
  cases hr
  have e : spanOk s a b = (decide (s.Low ≤ s.High) && decide (a ≤ s.Low) && decide (s.High ≤ b)) := by
    unfold spanOk; rw [Bool.and_comm (decide (a ≤ s.Low))]
  rw [e]
  refine VP.run (A := F35) (goodV_nil) [] (by rw [hE]; rfl) (by simp [F35]) ?_; unfold F35; simp (implicitDefEqProofs := false) [enc_list]
  repeat' (first | (refine vstep_split (fun hb => ?_) (fun hb => ?_) <;> (try simp only [Bool.not_eq_eq_eq_not, Bool.not_true, Bool.not_false, decide_eq_true_eq, decide_eq_false_iff_not] at hb) <;> simp (implicitDefEqProofs := false) [hb, enc_list]) | (refine vcond_split (fun hb => ?_) (fun hb => ?_) <;> (try simp only [Bool.not_eq_eq_eq_not, Bool.not_true, Bool.not_false, decide_eq_true_eq, decide_eq_false_iff_not] at hb) <;> simp (implicitDefEqProofs := false) [hb, enc_list]))
set_option maxHeartbeats 1600000 in
set_option maxRecDepth 20000 in
theorem k_sound (hE : E.env.fn = G) : Ok E 9 (s1 fun (c : Case) => some (soundK c)) := by
  refine ok1 fun c q hr => ?_
  cases hr
  have good := goodV_cons (w_TotalP hE) (goodV_cons (k_Check hE) (goodV_cons (w_CheckTownP hE) (goodV_cons (w_Lies hE) (goodV_cons (v_Valid hE) goodV_nil))))
  cases ho : okK c
  · have hck : checkK c = 100 := by unfold checkK; rw [ho]; rfl
    have hs : soundK c = 0 := by unfold soundK; rw [ho]; rfl
    obtain ⟨t1, t2, hT⟩ : ∃ t1 t2, TotalR c.Calendar = (t1, t2) := ⟨_, _, rfl⟩
    rw [hs]
    refine VP.func (A := F9) (by rw [hE]; rfl) (by simp [F9]) ?_; unfold F9
    refine VW.seq (VW.run good [] ?_); simp (implicitDefEqProofs := false) [enc_list]
    refine VW.seq (VW.run good [] ?_); simp (implicitDefEqProofs := false) [enc_list, hT]
    refine VW.seq (VW.run good [] ?_); simp (implicitDefEqProofs := false) [enc_list, hck]
    refine VW.seq (VW.run good [] ?_); simp (implicitDefEqProofs := false) [enc_list]
    refine VW.loop_to 0 [(3, .int .i64 t1), (5, .bool false)] [] (True) ?_ (fun hp f m hc => ?_)
    · obtain ⟨Inv, hI⟩ : ∃ Inv : Nat → List (Nat × PV) → VM → Prop, ∀ k f m, Inv k f m ↔ (f = [(1, .ptr 0 12 0), (3, .int .i64 t1), (5, .bool false), (6, .int .i64 0)] ∧ m = [ccl c]) := ⟨_, fun _ _ _ => Iff.rfl⟩
      refine VW.loop_cut Inv 0 ?_ ?_ ?_
      · exact ⟨_, _, (hI _ _ _).2 ⟨rfl, rfl⟩, ⟨1, [], by simp [enc_list], by simp, by simp, by simp (implicitDefEqProofs := false) [enc_list], by simp (implicitDefEqProofs := false) [enc_list]⟩⟩
      · intro k f m hk; omega
      · intro f m hi
        obtain ⟨rfl, rfl⟩ := (hI _ _ _).1 hi
        refine VW.run good [] ?_; simp (implicitDefEqProofs := false) [enc_list]
        exact ⟨0, [], by simp [enc_list], by simp, by simp, by simp (implicitDefEqProofs := false) [enc_list], by simp (implicitDefEqProofs := false) [enc_list]⟩
    · simp (implicitDefEqProofs := false); refine .ofCut hc (VW.run good [] ?_); simp (implicitDefEqProofs := false) [enc_list]
  · have hck : checkK c = 0 := by unfold checkK; rw [ho]; rfl
    have o := okK_ok ho
    have hs : soundK c = allR c.Calendar := by unfold soundK; rw [ho]; rfl
    have hT : TotalR c.Calendar = (allR c.Calendar, 0) := by
      obtain ⟨h1, _⟩ := checkTown_zero o.ct
      unfold TotalR; rw [if_pos h1]
    have hct := o.ct
    have a1 := o.a1
    have a2 := o.a2
    have e1 := o.e1
    have e2 := o.e2
    have l6 := o.l6
    have x1 : wi c.Each 1 1000000 = true := (wi_iff _ _ _).2 ⟨o.e1, o.e2⟩
    have x2 : wi c.Step 0 3 = true := (wi_iff _ _ _).2 ⟨o.s0, o.s3⟩
    have x3 : spanOk c.First (-30) 30 = true := (spanOk_iff _ _ _).2 ⟨o.f0, o.f1, o.f2⟩
    have x4 : (c.Log.length : Int) ≤ 6 := by omega
    have x5 : IntKind.i64.wrap (c.Each * 40) = c.Each * 40 := wrap64 (by omega) (by omega)
    have x6 : allR c.Calendar ≤ c.Each * 40 := by
      have h1 := lastN_cast o
      have h2 := o.st
      have h3 := Int.lt_ediv_add_one_mul_self (allR c.Calendar - 1) (show 0 < c.Each by omega)
      have h4 : ((allR c.Calendar - 1) / c.Each + 1) * c.Each ≤ 40 * c.Each := Int.mul_le_mul_of_nonneg_right (by omega) (by omega)
      rw [Int.mul_comm c.Each 40]
      omega
    have w1 : IntKind.i64.wrap (allR c.Calendar - 1) = allR c.Calendar - 1 := wrap64 (by omega) (by omega)
    have hen := o.en
    rw [hs]
    refine VP.func (A := F9) (by rw [hE]; rfl) (by simp [F9]) ?_; unfold F9
    refine VW.seq (VW.run good [] ?_); simp (implicitDefEqProofs := false) [enc_list]
    refine VW.seq (VW.run good [] ?_); simp (implicitDefEqProofs := false) [enc_list, hT]
    refine VW.seq (VW.run good [] ?_); simp (implicitDefEqProofs := false) [enc_list, hck, hct, a1, x1, x2, x3, x4, l6, x5, x6]
    refine VW.seq (VW.run good [] ?_); simp (implicitDefEqProofs := false) [enc_list]
    refine VW.loop_to 0 [(3, .int .i64 (allR c.Calendar)), (5, .bool true)] [] (True) ?_ (fun hp f m hc => ?_)
    · obtain ⟨Inv, hI⟩ : ∃ Inv : Nat → List (Nat × PV) → VM → Prop, ∀ k f m, Inv k f m ↔ (f = [(1, .ptr 0 12 0), (3, .int .i64 (allR c.Calendar)), (5, .bool true), (6, .int .i64 k)] ∧ m = [ccl c]) := ⟨_, fun _ _ _ => Iff.rfl⟩
      refine VW.loop_cut Inv c.Log.length ?_ ?_ ?_
      · exact ⟨_, _, (hI _ _ _).2 ⟨rfl, rfl⟩, ⟨1, [], by simp [enc_list], by simp, by simp, by simp (implicitDefEqProofs := false) [enc_list], by simp (implicitDefEqProofs := false) [enc_list]⟩⟩
      · intro k f m hk hi
        obtain ⟨rfl, rfl⟩ := (hI _ _ _).1 hi
        have w2 : IntKind.i64.wrap ((k : Int) + 1) = k + 1 := wrap64 (by omega) (by omega)
        have hk' : (k : Int) < c.Log.length := by omega
        obtain ⟨y0, y1, y2, y3, y4, y5⟩ := hen c.Log[k] (List.getElem_mem hk)
        have hg := get_Entry c.Log k hk
        generalize c.Log[k] = x at *
        have z1 : spanOk x.When 0 (allR c.Calendar - 1) = true := (spanOk_iff _ _ _).2 ⟨y0, y1, y2⟩
        have z2 : spanOk x.Late 0 60 = true := (spanOk_iff _ _ _).2 ⟨y3, y4, y5⟩
        refine VW.run good [] ?_; simp (implicitDefEqProofs := false) [enc_list, hk, hk', hg, w1, w2, z1, z2, spliceV]
        exact ⟨_, _, (hI _ _ _).2 ⟨rfl, rfl⟩, ⟨1, [], by simp [enc_list], by simp, by simp, by simp (implicitDefEqProofs := false) [enc_list], by simp (implicitDefEqProofs := false) [enc_list]⟩⟩
      · intro f m hi
        obtain ⟨rfl, rfl⟩ := (hI _ _ _).1 hi
        refine VW.run good [] ?_; simp (implicitDefEqProofs := false) [enc_list]
        exact ⟨0, [], by simp [enc_list], by simp, by simp, by simp (implicitDefEqProofs := false) [enc_list], by simp (implicitDefEqProofs := false) [enc_list]⟩
    · simp (implicitDefEqProofs := false); refine .ofCut hc (VW.run good [] ?_); simp (implicitDefEqProofs := false) [enc_list]
end Go.RS.DC

/- Law walks: court (6): claims chosen. -/
namespace Go.RS.DC
open Go Go.RS
open Go.RS.Enc (enc dec)
variable {E : VEnv}
abbrev K4 := Arr 4 Int
def kAt (k : K4) (i : Nat) : Int := k.l.getD i 0
theorem k4_cells (k : K4) : encL k.l = [.int .i64 (kAt k 0), .int .i64 (kAt k 1), .int .i64 (kAt k 2), .int .i64 (kAt k 3)] := by
  obtain ⟨l, h⟩ := k
  match l, h with
  | [a, b, c, d], _ => rfl
end Go.RS.DC

