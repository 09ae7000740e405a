/- Proved: the law CallerFewest returns true for every book and numbers, its listed variable tied to the text; no further condition. -/
import Derived.Test.YtidnkmbicedmjaaDoorShr
import Derived.Test.YtidnkmbicedmjaaDoorLFewest
set_option linter.all false
namespace Go.Proofs.YtidnkmbicedmjaaDoor.fewest
open Go.ChangeShapes Go.WideShapes Go.ChangeAt Go.RowKit Go.RS Go.RS.CC Go.Proofs.YtidnkmbicedmjaaDoor.open_
open Go.RS.Enc (enc dec)
abbrev zeroBook : Value := .agg #[.int .i64 0, .int .i64 0, .int .i64 0, .int .i64 0, .slice none 0 0, .slice none 0 0]
abbrev zeroArgs : Array Value := #[zeroBook, .int .i64 0]
theorem door_met (os : Os) : laidMetH Tryd.prog Rows.callerFewestRow.laid ((World.doorLaid Tryd.prog 600 os).forCall (fun _ _ => 0) ⟨#[], zeroArgs, []⟩).memory :=
  laidMetH_of_parts3 (fuel := 8) (laidMet_of_run' 8 (by kernel_rfl) (by kernel_rfl)) (by kernel_rfl) (by kernel_rfl)
set_option maxRecDepth 100000 in
theorem lifted (os : Os) (started : os.Started) (H : Type) (enc : TypeId × Value → H) (F : Stop.Interp) :
    ReturnsInHanded {} Tryd.checked os 9 .any ((OpenSpec.ofChange Rows.callerFewestSpec).preRow enc Tryd.prog Tryd.f9 Rows.callerFewestRow.domain false Rows.callerFewestRow.laid) (((OpenSpec.ofChange Rows.callerFewestSpec).at F).post enc Tryd.prog Tryd.f9 false true false false) := by
  refine returnsInHanded_of_row (C := Tryd.checked) (s := OpenSpec.ofChange Rows.callerFewestSpec) own started (by kernel_rfl) Tryd.func9
    (witness_row_at (enc := enc) (C := Tryd.checked) false (World.doorLaid Tryd.prog 600 os) zeroArgs rfl (by kernel_rfl) (by kernel_rfl) (by kernel_rfl)
      (OpenSpec.preRow_of_B rfl 8 (by kernel_rfl) (by kernel_rfl) (door_met os))) ?_
  intro W base0 args ds gs before hval hW _ _ _ hL _ _
  have hW' := hW
  obtain ⟨p, q, hA0, hV, rfl, hfz, hnd⟩ := hW
  have hA : DataW.TrodAll enc Tryd.prog W 0 (fun _ => true) true Tryd.f9.params.toList args.toList ds p := hA0
  have hlt := DataW.TrodAll.lt hA
  rw [Tryd.params9] at hA hval
  obtain ⟨v, v', d, d', p1, p2, rfl, rfl, rfl, h1, h2⟩ := trodAll_two hA
  obtain ⟨rfl, rfl⟩ := trodVars_none hV
  simp only [List.append_nil] at hW'
  have hv1 : Value.okWide Tryd.prog W .any base0 25 v := hval 0 25 v rfl rfl
  have hv2 : Value.okWide Tryd.prog W .any base0 3 v' := hval 1 3 v' rfl rfl
  unfold Value.okWide at hv1
  rw [Tryd.underlying25] at hv1
  obtain ⟨cs, rfl, _⟩ := hv1
  obtain ⟨n, rfl⟩ := okWide_int Tryd.underlying3 hv2
  obtain ⟨fu, h1'⟩ := h1
  obtain ⟨fu', h2'⟩ := h2
  obtain ⟨b, hp, βp, vs, B1, o1, g1⟩ := rd25.2 fu _ _ h1' base β0 (base_ok hL)
  have hP : VP EW 9 [Go.RS.Enc.enc b, .int .i64 n] (.bool true) := l_Fewest rfl works_ok b n
  refine (law_calls CC.low9 (args := #[.agg cs, .int .i64 n]) B1 o1 ((Got.agg g1).append (Got.one (.int _ _) (.int _ _))) hP).mono fun e W' he => ?_
  obtain ⟨rfl, hb⟩ := he
  exact ⟨_, rfl, _, _, _, [], p1 ++ p2, [], hW', trodAll_mk1 (shut_bool Tryd.underlying4 _),
    trodAll_mk2 (Below.trod laidOut (by kernel_rfl) (of_decide_eq_true (by kernel_rfl)) ⟨fu, h1'⟩ hb fun x hx => hlt x (by simp [hx])) (Below.trod laidOut (by kernel_rfl) (of_decide_eq_true (by kernel_rfl)) ⟨fu', h2'⟩ hb fun x hx => hlt x (by simp [hx])),
    rfl, hb.frame _, fun h => by cases h⟩

theorem said : Rows.CallerFewestSaid :=
  OpenClaim.holds_of_cond 9 Tryd.f9 rfl rfl rfl rfl rfl rfl rfl ⟨rfl, rfl, rfl, rfl, rfl⟩ rfl rfl rfl rfl rfl (by kernel_rfl) Tryd.func9 (by kernel_rfl)
    (of_decide_eq_true (by kernel_rfl)) (by unfold Func.isWrapper; first | (rw [if_pos (by decide +kernel)]; kernel_rfl) | (rw [if_neg (by decide +kernel)]; exact ⟨rfl, rfl⟩))
    (fun os started H enc _ F => by rw [OpenClaim.pre_eq_preRow]; exact lifted os started H enc F)

theorem plain (f : FuncId) (fn : Func) (hf : Tryd.pinned.checked.prog.funcNamed "remontoir/remontoirlaw09.CallerFewest" = some f) (hfn : Tryd.pinned.checked.prog.funcs[f]? = some fn) :
    false = Tryd.pinned.checked.prog.looks [] ∧ ∀ (j : Nat) t, fn.params[j]? = some t → Tryd.pinned.checked.prog.wantsStandIn t = false := by
  obtain rfl : f = 9 := Option.some.inj ((show Tryd.prog.funcNamed "remontoir/remontoirlaw09.CallerFewest" = some 9 by kernel_rfl).symm.trans hf) |>.symm
  obtain rfl : fn = Tryd.f9 := (Option.some.inj (Tryd.func9.symm.trans hfn)).symm
  refine ⟨by kernel_rfl, fun j t ht => ?_⟩
  rw [Tryd.params9] at ht
  have h25 : Tryd.prog.wantsStandIn 25 = false := by kernel_rfl
  have h3 : Tryd.prog.wantsStandIn 3 = false := by kernel_rfl
  match j with
  | 0 => obtain rfl : 25 = t := by simpa using ht
         exact h25
  | 1 => obtain rfl : 3 = t := by simpa using ht
         exact h3
  | j + 2 => simp at ht

theorem card : Rows.CallerFewestCardSaid :=
  Claim7.holds_tied_plain_at .later [] _ _ _ _ said (fun _ h => by cases h) (by kernel_rfl) (fun _ h => by cases h) callerFewest_row_tie rfl ⟨rfl, rfl⟩ (by kernel_rfl) rfl plain (by kernel_rfl)
end Go.Proofs.YtidnkmbicedmjaaDoor.fewest

