/- Proved: the law CourtWider returns true for every input, its listed variables tied to the text; no further condition. -/
import Derived.Test.YtmlogniaahnamaaDoorShr
import Derived.Test.YtmlogniaahnamaaDoorLWider
set_option linter.all false
namespace Go.Proofs.YtmlogniaahnamaaDoor.wider
open Go.ChangeShapes Go.WideShapes Go.ChangeAt Go.RowKit Go.RS Go.RS.DC Go.Proofs.YtmlogniaahnamaaDoor.open_
open Go.RS.Enc (enc dec)
abbrev zeroArgs : Array Value := #[.agg #[.int .i64 0, .int .i64 0, .int .i64 0, .int .i64 0, .slice none 0 0, .int .i64 0, .slice none 0 0, .int .i64 0, .int .i64 0, .int .i64 0, .int .i64 0, .slice none 0 0], .agg #[.int .i64 0, .int .i64 0, .int .i64 0, .int .i64 0]]
theorem door_met (os : Os) : laidMetH Tryd.prog Rows.courtWiderRow.laid ((World.doorLaid Tryd.prog 600 os).forCall (fun _ _ => 0) ⟨#[], zeroArgs, []⟩).memory :=
  laidMetH_of_parts3 (fuel := 8) (laidMet_of_run' 8 (by kernel_rfl) (by kernel_rfl)) (by kernel_rfl) (by kernel_rfl)
set_option maxRecDepth 100000 in
theorem lifted (os : Os) (started : os.Started) (H : Type) (enc : TypeId × Value → H) (F : Stop.Interp) :
    ReturnsInHanded {} Tryd.checked os 5 .any ((OpenSpec.ofChange Rows.courtWiderSpec).preRow enc Tryd.prog Tryd.f5 Rows.courtWiderRow.domain false Rows.courtWiderRow.laid) (((OpenSpec.ofChange Rows.courtWiderSpec).at F).post enc Tryd.prog Tryd.f5 false true false false) := by
  refine returnsInHanded_of_row (C := Tryd.checked) (s := OpenSpec.ofChange Rows.courtWiderSpec) own started (by kernel_rfl) Tryd.func5
    (witness_row_at (enc := enc) (C := Tryd.checked) false (World.doorLaid Tryd.prog 600 os) zeroArgs rfl (by kernel_rfl) (by kernel_rfl) (by kernel_rfl)
      (OpenSpec.preRow_of_B rfl 8 (by kernel_rfl) (by kernel_rfl) (door_met os))) ?_
  intro W base0 args ds gs before hval hW _ _ hsz0 hL _ _
  have hsz : (DataW.weightsEach Tryd.prog (Tryd.f5.params.toList ++ (OpenSpec.ofChange Rows.courtWiderSpec).bare.plain.varTypes Tryd.prog) (ds ++ gs)).all (· ≤ reachBytes) = true := hsz0
  clear hsz0
  have hW' := hW
  obtain ⟨p, q, hA0, hV, rfl, hfz, hnd⟩ := hW
  have hA : DataW.TrodAll enc Tryd.prog W 0 (fun _ => true) true Tryd.f5.params.toList args.toList ds p := hA0
  have hlt := DataW.TrodAll.lt hA
  rw [Tryd.params5] at hA hval hsz
  obtain ⟨v0, v1, d0, d1, p0, p1, rfl, rfl, rfl, h0, h1⟩ := trodAll_two hA
  obtain ⟨rfl, rfl⟩ := trodVars_none hV
  simp only [List.append_nil, List.append_assoc] at hW'
  have hv0 : Value.okWide Tryd.prog W .any base0 32 v0 := hval 0 32 v0 rfl rfl
  have hw0 : ∀ w ∈ d0.weights Tryd.prog 32, w ≤ reachBytes := fun w hm => of_decide_eq_true (List.all_eq_true.1 hsz _ (weightsEach_mem (i := 0) (t := 32) (d := d0) rfl rfl w hm))
  have hv1 : Value.okWide Tryd.prog W .any base0 33 v1 := hval 1 33 v1 rfl rfl
  have hw1 : ∀ w ∈ d1.weights Tryd.prog 33, w ≤ reachBytes := fun w hm => of_decide_eq_true (List.all_eq_true.1 hsz _ (weightsEach_mem (i := 1) (t := 33) (d := d1) rfl rfl w hm))
  unfold Value.okWide at hv0
  rw [Tryd.underlying32] at hv0
  obtain ⟨cs0, rfl, _⟩ := hv0
  unfold Value.okWide at hv1
  rw [Tryd.underlying33] at hv1
  obtain ⟨cs1, rfl, _⟩ := hv1
  obtain ⟨fu0, h0'⟩ := h0
  obtain ⟨fu1, h1'⟩ := h1
  obtain ⟨a0, hp0, βp0, vs0, D0, B0, o0, g0⟩ := rd32.2 fu0 _ _ h0' hw0 base β0 (base_ok hL)
  obtain ⟨a1, hp1, βp1, vs1, D1, B1, o1, g1⟩ := rd33.2 fu1 _ _ h1' hw1 hp0 βp0 B0
  obtain ⟨c, rfl⟩ : ∃ x, x = a0 := ⟨_, rfl⟩
  obtain ⟨k, rfl⟩ : ∃ x, x = a1 := ⟨_, rfl⟩
  have hP : VP EW 5 [.agg (El.cells c), .agg (El.cells k)] (.bool true) := l_Wider rfl rfl rfl c k
  refine (law_calls DC.low5 (args := #[.agg cs0, .agg cs1]) B1 (o0.trans o1) ((Got.agg (g0.up o1)).append (Got.agg g1)) hP).mono fun e W' he => ?_
  obtain ⟨rfl, hb⟩ := he
  exact ⟨_, rfl, _, _, _, [], p0 ++ p1, [], hW', trodAll_mk1 (shut_bool Tryd.underlying4 _),
    trodAll_mk2 (Below.trod laidOut (by kernel_rfl) (of_decide_eq_true (by kernel_rfl)) ⟨fu0, h0'⟩ hb fun x hx => hlt x (by simp [hx])) (Below.trod laidOut (by kernel_rfl) (of_decide_eq_true (by kernel_rfl)) ⟨fu1, h1'⟩ hb fun x hx => hlt x (by simp [hx])),
    rfl, hb.frame _, fun h => by cases h⟩

theorem said : Rows.CourtWiderSaid :=
  OpenClaim.holds_of_cond 5 Tryd.f5 rfl rfl rfl rfl rfl rfl rfl ⟨rfl, rfl, rfl, rfl, rfl⟩ rfl rfl rfl rfl rfl (by kernel_rfl) Tryd.func5 (by kernel_rfl)
    (of_decide_eq_true (by kernel_rfl)) (by unfold Func.isWrapper; first | (rw [if_pos (by decide +kernel)]; kernel_rfl) | (rw [if_neg (by decide +kernel)]; exact ⟨rfl, rfl⟩))
    (fun os started H enc _ F => by rw [OpenClaim.pre_eq_preRow]; exact lifted os started H enc F)

theorem plain (f : FuncId) (fn : Func) (hf : Tryd.pinned.checked.prog.funcNamed "remontoir/remontoirlaw10.CourtWider" = some f) (hfn : Tryd.pinned.checked.prog.funcs[f]? = some fn) :
    false = Tryd.pinned.checked.prog.looks [] ∧ ∀ (j : Nat) t, fn.params[j]? = some t → Tryd.pinned.checked.prog.wantsStandIn t = false := by
  obtain rfl : f = 5 := Option.some.inj ((show Tryd.prog.funcNamed "remontoir/remontoirlaw10.CourtWider" = some 5 by kernel_rfl).symm.trans hf) |>.symm
  obtain rfl : fn = Tryd.f5 := (Option.some.inj (Tryd.func5.symm.trans hfn)).symm
  refine ⟨by kernel_rfl, fun j t ht => ?_⟩
  rw [Tryd.params5] at ht
  have w32 : Tryd.prog.wantsStandIn 32 = false := by kernel_rfl
  have w33 : Tryd.prog.wantsStandIn 33 = false := by kernel_rfl
  match j with
  | 0 => obtain rfl : 32 = t := by simpa using ht
         exact w32
  | 1 => obtain rfl : 33 = t := by simpa using ht
         exact w33
  | j + 2 => simp at ht

theorem card : Rows.CourtWiderCardSaid :=
  Claim7.holds_tied_plain_at .later [] _ _ _ _ said (fun _ h => by cases h) (by kernel_rfl) (fun _ h => by cases h) courtWider_row_tie rfl ⟨rfl, rfl⟩ (by kernel_rfl) rfl plain (by kernel_rfl)
end Go.Proofs.YtmlogniaahnamaaDoor.wider

