/- Proved: the law VoiceSpoken returns true for every input, its listed variables tied to the text; no further condition. -/
import Derived.Test.YtcbkaiakncbcbaaDoorShr
import Derived.Test.YtcbkaiakncbcbaaDoorLSpoken
set_option linter.all false
namespace Go.Proofs.YtcbkaiakncbcbaaDoor.spoken
open Go.ChangeShapes Go.WideShapes Go.ChangeAt Go.RowKit Go.RS Go.RS.DC Go.Proofs.YtcbkaiakncbcbaaDoor.open_
open Go.RS.Enc (enc dec)
abbrev zeroArgs : Array Value := #[.agg #[.slice none 0 0, .slice none 0 0, .int .i64 0, .int .i64 0, .int .i64 0, .int .i64 0], .slice none 0 0, .agg #[.int .i64 0, .int .i64 0]]
theorem door_met (os : Os) : laidMetH Tryd.prog Rows.voiceSpokenRow.laid ((World.doorLaid Tryd.prog 600 os).forCall (fun _ _ => 0) ⟨#[], zeroArgs, []⟩).memory :=
  laidMetH_of_parts3 (fuel := 8) (laidMet_of_run' 8 (by kernel_rfl) (by kernel_rfl)) (by kernel_rfl) (by kernel_rfl)
set_option maxRecDepth 100000 in
theorem lifted (os : Os) (started : os.Started) (H : Type) (enc : TypeId × Value → H) (F : Stop.Interp) :
    ReturnsInHanded {} Tryd.checked os 10 .any ((OpenSpec.ofChange Rows.voiceSpokenSpec).preRow enc Tryd.prog Tryd.f10 Rows.voiceSpokenRow.domain false Rows.voiceSpokenRow.laid) (((OpenSpec.ofChange Rows.voiceSpokenSpec).at F).post enc Tryd.prog Tryd.f10 false true false false) := by
  refine returnsInHanded_of_row (C := Tryd.checked) (s := OpenSpec.ofChange Rows.voiceSpokenSpec) own started (by kernel_rfl) Tryd.func10
    (witness_row_at (enc := enc) (C := Tryd.checked) false (World.doorLaid Tryd.prog 600 os) zeroArgs rfl (by kernel_rfl) (by kernel_rfl) (by kernel_rfl)
      (OpenSpec.preRow_of_B rfl 8 (by kernel_rfl) (by kernel_rfl) (door_met os))) ?_
  intro W base0 args ds gs before hval hW _ _ hsz0 hL _ _
  have hsz : (DataW.weightsEach Tryd.prog (Tryd.f10.params.toList ++ (OpenSpec.ofChange Rows.voiceSpokenSpec).bare.plain.varTypes Tryd.prog) (ds ++ gs)).all (· ≤ reachBytes) = true := hsz0
  clear hsz0
  have hW' := hW
  obtain ⟨p, q, hA0, hV, rfl, hfz, hnd⟩ := hW
  have hA : DataW.TrodAll enc Tryd.prog W 0 (fun _ => true) true Tryd.f10.params.toList args.toList ds p := hA0
  have hlt := DataW.TrodAll.lt hA
  rw [Tryd.params10] at hA hval hsz
  obtain ⟨v0, v1, v2, d0, d1, d2, p0, p1, p2, rfl, rfl, rfl, h0, h1, h2⟩ := trodAll_three hA
  obtain ⟨rfl, rfl⟩ := trodVars_none hV
  simp only [List.append_nil, List.append_assoc] at hW'
  have hv0 : Value.okWide Tryd.prog W .any base0 27 v0 := hval 0 27 v0 rfl rfl
  have hw0 : ∀ w ∈ d0.weights Tryd.prog 27, w ≤ reachBytes := fun w hm => of_decide_eq_true (List.all_eq_true.1 hsz _ (weightsEach_mem (i := 0) (t := 27) (d := d0) rfl rfl w hm))
  have hv1 : Value.okWide Tryd.prog W .any base0 22 v1 := hval 1 22 v1 rfl rfl
  have hw1 : ∀ w ∈ d1.weights Tryd.prog 22, w ≤ reachBytes := fun w hm => of_decide_eq_true (List.all_eq_true.1 hsz _ (weightsEach_mem (i := 1) (t := 22) (d := d1) rfl rfl w hm))
  have hv2 : Value.okWide Tryd.prog W .any base0 63 v2 := hval 2 63 v2 rfl rfl
  have hw2 : ∀ w ∈ d2.weights Tryd.prog 63, w ≤ reachBytes := fun w hm => of_decide_eq_true (List.all_eq_true.1 hsz _ (weightsEach_mem (i := 2) (t := 63) (d := d2) rfl rfl w hm))
  unfold Value.okWide at hv0
  rw [Tryd.underlying27] at hv0
  obtain ⟨cs0, rfl, _⟩ := hv0
  obtain ⟨sa1, sl1, sc1, rfl⟩ := okWide_slice Tryd.underlying22 hv1
  unfold Value.okWide at hv2
  rw [Tryd.underlying63] at hv2
  obtain ⟨cs2, rfl, _⟩ := hv2
  obtain ⟨fu0, h0'⟩ := h0
  obtain ⟨fu1, h1'⟩ := h1
  obtain ⟨fu2, h2'⟩ := h2
  obtain ⟨a0, hp0, βp0, vs0, D0, B0, o0, g0⟩ := rd27.2 fu0 _ _ h0' hw0 base β0 (base_ok hL)
  obtain ⟨a1, hp1, βp1, vs1, D1, B1, o1, g1⟩ := rd22.2 fu1 _ _ h1' hw1 hp0 βp0 B0
  obtain ⟨a2, hp2, βp2, vs2, D2, B2, o2, g2⟩ := rd63.2 fu2 _ _ h2' hw2 hp1 βp1 B1
  obtain ⟨b, rfl⟩ : ∃ x, x = a0 := ⟨_, rfl⟩
  obtain ⟨bits, rfl⟩ : ∃ x, x = a1 := ⟨_, rfl⟩
  obtain ⟨l2, hl2⟩ := a2
  obtain ⟨n0, n1, rfl⟩ : ∃ n0 n1, l2 = [n0, n1] := by
    match l2, hl2 with | [n0, n1], _ => exact ⟨n0, n1, rfl⟩
  have hP : VP EW 10 [.agg (El.cells b), Enc.enc bits, .agg [.int .i64 n0, .int .i64 n1]] (.bool true) := l_Spoken rfl rfl rfl b bits n0 n1
  refine (law_calls DC.low10 (args := #[.agg cs0, .slice sa1 sl1 sc1, .agg cs2]) B2 ((o0.trans o1).trans o2) (((Got.agg (g0.up (o1.trans o2))).append (g1.up o2)).append (Got.agg g2)) hP).mono fun e W' he => ?_
  obtain ⟨rfl, hb⟩ := he
  exact ⟨_, rfl, _, _, _, [], p0 ++ (p1 ++ p2), [], hW', trodAll_mk1 (shut_bool Tryd.underlying4 _),
    trodAll_mk3 (Below.trod laidOut (by kernel_rfl) (of_decide_eq_true (by kernel_rfl)) ⟨fu0, h0'⟩ hb fun x hx => hlt x (by simp [hx])) (Below.trod laidOut (by kernel_rfl) (of_decide_eq_true (by kernel_rfl)) ⟨fu1, h1'⟩ hb fun x hx => hlt x (by simp [hx])) (Below.trod laidOut (by kernel_rfl) (of_decide_eq_true (by kernel_rfl)) ⟨fu2, h2'⟩ hb fun x hx => hlt x (by simp [hx])),
    rfl, hb.frame _, fun h => by cases h⟩

theorem said : Rows.VoiceSpokenSaid :=
  OpenClaim.holds_of_cond 10 Tryd.f10 rfl rfl rfl rfl rfl rfl rfl ⟨rfl, rfl, rfl, rfl, rfl⟩ rfl rfl rfl rfl rfl (by kernel_rfl) Tryd.func10 (by kernel_rfl)
    (of_decide_eq_true (by kernel_rfl)) (by unfold Func.isWrapper; first | (rw [if_pos (by decide +kernel)]; kernel_rfl) | (rw [if_neg (by decide +kernel)]; exact ⟨rfl, rfl⟩))
    (fun os started H enc _ F => by rw [OpenClaim.pre_eq_preRow]; exact lifted os started H enc F)

theorem plain (f : FuncId) (fn : Func) (hf : Tryd.pinned.checked.prog.funcNamed "remontoir/remontoirlaw05.VoiceSpoken" = some f) (hfn : Tryd.pinned.checked.prog.funcs[f]? = some fn) :
    false = Tryd.pinned.checked.prog.looks [] ∧ ∀ (j : Nat) t, fn.params[j]? = some t → Tryd.pinned.checked.prog.wantsStandIn t = false := by
  obtain rfl : f = 10 := Option.some.inj ((show Tryd.prog.funcNamed "remontoir/remontoirlaw05.VoiceSpoken" = some 10 by kernel_rfl).symm.trans hf) |>.symm
  obtain rfl : fn = Tryd.f10 := (Option.some.inj (Tryd.func10.symm.trans hfn)).symm
  refine ⟨by kernel_rfl, fun j t ht => ?_⟩
  rw [Tryd.params10] at ht
  have w22 : Tryd.prog.wantsStandIn 22 = false := by kernel_rfl
  have w27 : Tryd.prog.wantsStandIn 27 = false := by kernel_rfl
  have w63 : Tryd.prog.wantsStandIn 63 = false := by kernel_rfl
  match j with
  | 0 => obtain rfl : 27 = t := by simpa using ht
         exact w27
  | 1 => obtain rfl : 22 = t := by simpa using ht
         exact w22
  | 2 => obtain rfl : 63 = t := by simpa using ht
         exact w63
  | j + 3 => simp at ht

theorem card : Rows.VoiceSpokenCardSaid :=
  Claim7.holds_tied_plain_at .later [] _ _ _ _ said (fun _ h => by cases h) (by kernel_rfl) (fun _ h => by cases h) voiceSpoken_row_tie rfl ⟨rfl, rfl⟩ (by kernel_rfl) rfl plain (by kernel_rfl)
end Go.Proofs.YtcbkaiakncbcbaaDoor.spoken

