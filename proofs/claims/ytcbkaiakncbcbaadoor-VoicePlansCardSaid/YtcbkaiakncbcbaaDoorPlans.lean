/- Proved: the law VoicePlans returns true for every input, its listed variables tied to the text; no further condition. -/
import Derived.Test.YtcbkaiakncbcbaaDoorShr
import Derived.Test.YtcbkaiakncbcbaaDoorLPlans
set_option linter.all false
namespace Go.Proofs.YtcbkaiakncbcbaaDoor.plans
open Go.ChangeShapes Go.WideShapes Go.ChangeAt Go.RowKit Go.RS Go.RS.DC Go.Proofs.YtcbkaiakncbcbaaDoor.open_
open Go.RS.Enc (enc dec)
abbrev zeroArgs : Array Value := #[.agg #[.slice none 0 0, .slice none 0 0, .int .i64 0, .int .i64 0, .int .i64 0, .int .i64 0], .agg #[.slice none 0 0, .int .i64 0, .int .i64 0], .slice none 0 0]
theorem door_met (os : Os) : laidMetH Tryd.prog Rows.voicePlansRow.laid ((World.doorLaid Tryd.prog 600 os).forCall (fun _ _ => 0) ⟨#[], zeroArgs, []⟩).memory :=
  laidMetH_of_parts3 (fuel := 8) (laidMet_of_run' 8 (by kernel_rfl) (by kernel_rfl)) (by kernel_rfl) (by kernel_rfl)
set_option maxRecDepth 100000 in
theorem lifted (os : Os) (started : os.Started) (H : Type) (enc : TypeId × Value → H) (F : Stop.Interp) :
    ReturnsInHanded {} Tryd.checked os 4 .any ((OpenSpec.ofChange Rows.voicePlansSpec).preRow enc Tryd.prog Tryd.f4 Rows.voicePlansRow.domain false Rows.voicePlansRow.laid) (((OpenSpec.ofChange Rows.voicePlansSpec).at F).post enc Tryd.prog Tryd.f4 false true false false) := by
  refine returnsInHanded_of_row (C := Tryd.checked) (s := OpenSpec.ofChange Rows.voicePlansSpec) own started (by kernel_rfl) Tryd.func4
    (witness_row_at (enc := enc) (C := Tryd.checked) false (World.doorLaid Tryd.prog 600 os) zeroArgs rfl (by kernel_rfl) (by kernel_rfl) (by kernel_rfl)
      (OpenSpec.preRow_of_B rfl 8 (by kernel_rfl) (by kernel_rfl) (door_met os))) ?_
  intro W base0 args ds gs before hval hW _ _ hsz0 hL _ _
  have hsz : (DataW.weightsEach Tryd.prog (Tryd.f4.params.toList ++ (OpenSpec.ofChange Rows.voicePlansSpec).bare.plain.varTypes Tryd.prog) (ds ++ gs)).all (· ≤ reachBytes) = true := hsz0
  clear hsz0
  have hW' := hW
  obtain ⟨p, q, hA0, hV, rfl, hfz, hnd⟩ := hW
  have hA : DataW.TrodAll enc Tryd.prog W 0 (fun _ => true) true Tryd.f4.params.toList args.toList ds p := hA0
  have hlt := DataW.TrodAll.lt hA
  rw [Tryd.params4] at hA hval hsz
  obtain ⟨v0, v1, v2, d0, d1, d2, p0, p1, p2, rfl, rfl, rfl, h0, h1, h2⟩ := trodAll_three hA
  obtain ⟨rfl, rfl⟩ := trodVars_none hV
  simp only [List.append_nil, List.append_assoc] at hW'
  have hv0 : Value.okWide Tryd.prog W .any base0 27 v0 := hval 0 27 v0 rfl rfl
  have hw0 : ∀ w ∈ d0.weights Tryd.prog 27, w ≤ reachBytes := fun w hm => of_decide_eq_true (List.all_eq_true.1 hsz _ (weightsEach_mem (i := 0) (t := 27) (d := d0) rfl rfl w hm))
  have hv1 : Value.okWide Tryd.prog W .any base0 41 v1 := hval 1 41 v1 rfl rfl
  have hw1 : ∀ w ∈ d1.weights Tryd.prog 41, w ≤ reachBytes := fun w hm => of_decide_eq_true (List.all_eq_true.1 hsz _ (weightsEach_mem (i := 1) (t := 41) (d := d1) rfl rfl w hm))
  have hv2 : Value.okWide Tryd.prog W .any base0 42 v2 := hval 2 42 v2 rfl rfl
  have hw2 : ∀ w ∈ d2.weights Tryd.prog 42, w ≤ reachBytes := fun w hm => of_decide_eq_true (List.all_eq_true.1 hsz _ (weightsEach_mem (i := 2) (t := 42) (d := d2) rfl rfl w hm))
  unfold Value.okWide at hv0
  rw [Tryd.underlying27] at hv0
  obtain ⟨cs0, rfl, _⟩ := hv0
  unfold Value.okWide at hv1
  rw [Tryd.underlying41] at hv1
  obtain ⟨cs1, rfl, _⟩ := hv1
  obtain ⟨sa2, sl2, sc2, rfl⟩ := okWide_slice Tryd.underlying42 hv2
  obtain ⟨fu0, h0'⟩ := h0
  obtain ⟨fu1, h1'⟩ := h1
  obtain ⟨fu2, h2'⟩ := h2
  obtain ⟨a0, hp0, βp0, vs0, D0, B0, o0, g0⟩ := rd27.2 fu0 _ _ h0' hw0 base β0 (base_ok hL)
  obtain ⟨a1, hp1, βp1, vs1, D1, B1, o1, g1⟩ := rd41.2 fu1 _ _ h1' hw1 hp0 βp0 B0
  obtain ⟨a2, hp2, βp2, vs2, D2, B2, o2, g2⟩ := rd42.2 fu2 _ _ h2' hw2 hp1 βp1 B1
  obtain ⟨b, rfl⟩ : ∃ x, x = a0 := ⟨_, rfl⟩
  obtain ⟨x, rfl⟩ : ∃ x, x = a1 := ⟨_, rfl⟩
  obtain ⟨plan, rfl⟩ : ∃ x, x = a2 := ⟨_, rfl⟩
  have hP : VP EW 4 [.agg (El.cells b), .agg (El.cells x), Enc.enc plan] (.bool true) := l_Plans rfl rfl rfl b x plan
  refine (law_calls DC.low4 (args := #[.agg cs0, .agg cs1, .slice sa2 sl2 sc2]) B2 ((o0.trans o1).trans o2) (((Got.agg (g0.up (o1.trans o2))).append (Got.agg (g1.up o2))).append g2) hP).mono fun e W' he => ?_
  obtain ⟨rfl, hb⟩ := he
  exact ⟨_, rfl, _, _, _, [], p0 ++ (p1 ++ p2), [], hW', trodAll_mk1 (shut_bool Tryd.underlying4 _),
    trodAll_mk3 (Below.trod laidOut (by kernel_rfl) (of_decide_eq_true (by kernel_rfl)) ⟨fu0, h0'⟩ hb fun x hx => hlt x (by simp [hx])) (Below.trod laidOut (by kernel_rfl) (of_decide_eq_true (by kernel_rfl)) ⟨fu1, h1'⟩ hb fun x hx => hlt x (by simp [hx])) (Below.trod laidOut (by kernel_rfl) (of_decide_eq_true (by kernel_rfl)) ⟨fu2, h2'⟩ hb fun x hx => hlt x (by simp [hx])),
    rfl, hb.frame _, fun h => by cases h⟩

theorem said : Rows.VoicePlansSaid :=
  OpenClaim.holds_of_cond 4 Tryd.f4 rfl rfl rfl rfl rfl rfl rfl ⟨rfl, rfl, rfl, rfl, rfl⟩ rfl rfl rfl rfl rfl (by kernel_rfl) Tryd.func4 (by kernel_rfl)
    (of_decide_eq_true (by kernel_rfl)) (by unfold Func.isWrapper; first | (rw [if_pos (by decide +kernel)]; kernel_rfl) | (rw [if_neg (by decide +kernel)]; exact ⟨rfl, rfl⟩))
    (fun os started H enc _ F => by rw [OpenClaim.pre_eq_preRow]; exact lifted os started H enc F)

theorem plain (f : FuncId) (fn : Func) (hf : Tryd.pinned.checked.prog.funcNamed "remontoir/remontoirlaw05.VoicePlans" = some f) (hfn : Tryd.pinned.checked.prog.funcs[f]? = some fn) :
    false = Tryd.pinned.checked.prog.looks [] ∧ ∀ (j : Nat) t, fn.params[j]? = some t → Tryd.pinned.checked.prog.wantsStandIn t = false := by
  obtain rfl : f = 4 := Option.some.inj ((show Tryd.prog.funcNamed "remontoir/remontoirlaw05.VoicePlans" = some 4 by kernel_rfl).symm.trans hf) |>.symm
  obtain rfl : fn = Tryd.f4 := (Option.some.inj (Tryd.func4.symm.trans hfn)).symm
  refine ⟨by kernel_rfl, fun j t ht => ?_⟩
  rw [Tryd.params4] at ht
  have w27 : Tryd.prog.wantsStandIn 27 = false := by kernel_rfl
  have w41 : Tryd.prog.wantsStandIn 41 = false := by kernel_rfl
  have w42 : Tryd.prog.wantsStandIn 42 = false := by kernel_rfl
  match j with
  | 0 => obtain rfl : 27 = t := by simpa using ht
         exact w27
  | 1 => obtain rfl : 41 = t := by simpa using ht
         exact w41
  | 2 => obtain rfl : 42 = t := by simpa using ht
         exact w42
  | j + 3 => simp at ht

theorem card : Rows.VoicePlansCardSaid :=
  Claim7.holds_tied_plain_at .later [] _ _ _ _ said (fun _ h => by cases h) (by kernel_rfl) (fun _ h => by cases h) voicePlans_row_tie rfl ⟨rfl, rfl⟩ (by kernel_rfl) rfl plain (by kernel_rfl)
end Go.Proofs.YtcbkaiakncbcbaaDoor.plans

