/- Proved: the law DialTwice returns true for every input, its listed variables tied to the text; no further condition. -/
import Derived.Test.YtenmjloiadkgjaaDoorShr
import Derived.Test.YtenmjloiadkgjaaDoorLTwice
set_option linter.all false
namespace Go.Proofs.YtenmjloiadkgjaaDoor.twice
open Go.ChangeShapes Go.WideShapes Go.ChangeAt Go.RowKit Go.RS Go.RS.DC Go.Proofs.YtenmjloiadkgjaaDoor.open_
open Go.RS.Enc (enc dec)
abbrev zeroArgs : Array Value := #[.agg #[.int .i64 0, .int .i64 0, .int .i64 0, .int .i64 0, .slice none 0 0, .int .i64 0, .slice none 0 0]]
theorem door_met (os : Os) : laidMetH Tryd.prog Rows.dialTwiceRow.laid ((World.doorLaid Tryd.prog 600 os).forCall (fun _ _ => 0) ⟨#[], zeroArgs, []⟩).memory :=
  laidMetH_of_parts3 (fuel := 8) (laidMet_of_run' 8 (by kernel_rfl) (by kernel_rfl)) (by kernel_rfl) (by kernel_rfl)
set_option maxRecDepth 100000 in
theorem lifted (os : Os) (started : os.Started) (H : Type) (enc : TypeId × Value → H) (F : Stop.Interp) :
    ReturnsInHanded {} Tryd.checked os 14 .any ((OpenSpec.ofChange Rows.dialTwiceSpec).preRow enc Tryd.prog Tryd.f14 Rows.dialTwiceRow.domain false Rows.dialTwiceRow.laid) (((OpenSpec.ofChange Rows.dialTwiceSpec).at F).post enc Tryd.prog Tryd.f14 false true false false) := by
  refine returnsInHanded_of_row (C := Tryd.checked) (s := OpenSpec.ofChange Rows.dialTwiceSpec) own started (by kernel_rfl) Tryd.func14
    (witness_row_at (enc := enc) (C := Tryd.checked) false (World.doorLaid Tryd.prog 600 os) zeroArgs rfl (by kernel_rfl) (by kernel_rfl) (by kernel_rfl)
      (OpenSpec.preRow_of_B rfl 8 (by kernel_rfl) (by kernel_rfl) (door_met os))) ?_
  intro W base0 args ds gs before hval hW _ _ hsz0 hL _ _
  have hsz : (DataW.weightsEach Tryd.prog (Tryd.f14.params.toList ++ (OpenSpec.ofChange Rows.dialTwiceSpec).bare.plain.varTypes Tryd.prog) (ds ++ gs)).all (· ≤ reachBytes) = true := hsz0
  clear hsz0
  have hW' := hW
  obtain ⟨p, q, hA0, hV, rfl, hfz, hnd⟩ := hW
  have hA : DataW.TrodAll enc Tryd.prog W 0 (fun _ => true) true Tryd.f14.params.toList args.toList ds p := hA0
  have hlt := DataW.TrodAll.lt hA
  rw [Tryd.params14] at hA hval hsz
  obtain ⟨v0, d0, rfl, rfl, h0⟩ := trodAll_one hA
  obtain ⟨rfl, rfl⟩ := trodVars_none hV
  simp only [List.append_nil, List.append_assoc] at hW'
  have hv0 : Value.okWide Tryd.prog W .any base0 46 v0 := hval 0 46 v0 rfl rfl
  have hw0 : ∀ w ∈ d0.weights Tryd.prog 46, w ≤ reachBytes := fun w hm => of_decide_eq_true (List.all_eq_true.1 hsz _ (weightsEach_mem (i := 0) (t := 46) (d := d0) rfl rfl w hm))
  unfold Value.okWide at hv0
  rw [Tryd.underlying46] at hv0
  obtain ⟨cs0, rfl, _⟩ := hv0
  obtain ⟨fu0, h0'⟩ := h0
  obtain ⟨a0, hp0, βp0, vs0, D0, B0, o0, g0⟩ := rd46.2 fu0 _ _ h0' hw0 base β0 (base_ok hL)
  obtain ⟨x, rfl⟩ : ∃ x, x = a0 := ⟨_, rfl⟩
  have hP : VP EW 14 [.agg (El.cells x)] (.bool true) := l_Twice rfl rfl x
  refine (law_calls DC.low14 (args := #[.agg cs0]) B0 o0 (Got.agg g0) hP).mono fun e W' he => ?_
  obtain ⟨rfl, hb⟩ := he
  exact ⟨_, rfl, _, _, _, [], p, [], hW', trodAll_mk1 (shut_bool Tryd.underlying4 _),
    trodAll_mk1 (Below.trod laidOut (by kernel_rfl) (of_decide_eq_true (by kernel_rfl)) ⟨fu0, h0'⟩ hb fun x hx => hlt x (by simp [hx])),
    rfl, hb.frame _, fun h => by cases h⟩

theorem said : Rows.DialTwiceSaid :=
  OpenClaim.holds_of_cond 14 Tryd.f14 rfl rfl rfl rfl rfl rfl rfl ⟨rfl, rfl, rfl, rfl, rfl⟩ rfl rfl rfl rfl rfl (by kernel_rfl) Tryd.func14 (by kernel_rfl)
    (of_decide_eq_true (by kernel_rfl)) (by unfold Func.isWrapper; first | (rw [if_pos (by decide +kernel)]; kernel_rfl) | (rw [if_neg (by decide +kernel)]; exact ⟨rfl, rfl⟩))
    (fun os started H enc _ F => by rw [OpenClaim.pre_eq_preRow]; exact lifted os started H enc F)

theorem plain (f : FuncId) (fn : Func) (hf : Tryd.pinned.checked.prog.funcNamed "remontoir/remontoirlaw01.DialTwice" = some f) (hfn : Tryd.pinned.checked.prog.funcs[f]? = some fn) :
    false = Tryd.pinned.checked.prog.looks [] ∧ ∀ (j : Nat) t, fn.params[j]? = some t → Tryd.pinned.checked.prog.wantsStandIn t = false := by
  obtain rfl : f = 14 := Option.some.inj ((show Tryd.prog.funcNamed "remontoir/remontoirlaw01.DialTwice" = some 14 by kernel_rfl).symm.trans hf) |>.symm
  obtain rfl : fn = Tryd.f14 := (Option.some.inj (Tryd.func14.symm.trans hfn)).symm
  refine ⟨by kernel_rfl, fun j t ht => ?_⟩
  rw [Tryd.params14] at ht
  have w46 : Tryd.prog.wantsStandIn 46 = false := by kernel_rfl
  match j with
  | 0 => obtain rfl : 46 = t := by simpa using ht
         exact w46
  | j + 1 => simp at ht

theorem card : Rows.DialTwiceCardSaid :=
  Claim7.holds_tied_plain_at .later [] _ _ _ _ said (fun _ h => by cases h) (by kernel_rfl) (fun _ h => by cases h) dialTwice_row_tie rfl ⟨rfl, rfl⟩ (by kernel_rfl) rfl plain (by kernel_rfl)
end Go.Proofs.YtenmjloiadkgjaaDoor.twice

