/- Proved: the law CallerCoin returns true for every book and numbers, its listed variable tied to the text; no further condition. -/
import Derived.Test.YtidnkmbicedmjaaDoorShr
import Derived.Test.YtidnkmbicedmjaaDoorLCoin
set_option linter.all false
namespace Go.Proofs.YtidnkmbicedmjaaDoor.coin
open Go.ChangeShapes Go.WideShapes Go.ChangeAt Go.RowKit Go.RS Go.RS.CC Go.Proofs.YtidnkmbicedmjaaDoor.open_
open Go.RS.Enc (enc dec)
abbrev zeroBook : Value := .agg #[.int .i64 0, .int .i64 0, .int .i64 0, .int .i64 0, .slice none 0 0, .slice none 0 0]
abbrev zeroArgs : Array Value := #[zeroBook, .agg #[.int .i64 0, .int .i64 0]]
theorem door_met (os : Os) : laidMetH Tryd.prog Rows.callerCoinRow.laid ((World.doorLaid Tryd.prog 600 os).forCall (fun _ _ => 0) ⟨#[], zeroArgs, []⟩).memory :=
  laidMetH_of_parts3 (fuel := 8) (laidMet_of_run' 8 (by kernel_rfl) (by kernel_rfl)) (by kernel_rfl) (by kernel_rfl)
set_option maxRecDepth 100000 in
theorem lifted (os : Os) (started : os.Started) (H : Type) (enc : TypeId × Value → H) (F : Stop.Interp) :
    ReturnsInHanded {} Tryd.checked os 12 .any ((OpenSpec.ofChange Rows.callerCoinSpec).preRow enc Tryd.prog Tryd.f12 Rows.callerCoinRow.domain false Rows.callerCoinRow.laid) (((OpenSpec.ofChange Rows.callerCoinSpec).at F).post enc Tryd.prog Tryd.f12 false true false false) := by
  refine returnsInHanded_of_row (C := Tryd.checked) (s := OpenSpec.ofChange Rows.callerCoinSpec) own started (by kernel_rfl) Tryd.func12
    (witness_row_at (enc := enc) (C := Tryd.checked) false (World.doorLaid Tryd.prog 600 os) zeroArgs rfl (by kernel_rfl) (by kernel_rfl) (by kernel_rfl)
      (OpenSpec.preRow_of_B rfl 8 (by kernel_rfl) (by kernel_rfl) (door_met os))) ?_
  intro W base0 args ds gs before hval hW _ _ _ hL _ _
  have hW' := hW
  obtain ⟨p, q, hA0, hV, rfl, hfz, hnd⟩ := hW
  have hA : DataW.TrodAll enc Tryd.prog W 0 (fun _ => true) true Tryd.f12.params.toList args.toList ds p := hA0
  have hlt := DataW.TrodAll.lt hA
  rw [Tryd.params12] at hA hval
  obtain ⟨v, v', d, d', p1, p2, rfl, rfl, rfl, h1, h2⟩ := trodAll_two hA
  obtain ⟨rfl, rfl⟩ := trodVars_none hV
  simp only [List.append_nil] at hW'
  have hv1 : Value.okWide Tryd.prog W .any base0 25 v := hval 0 25 v rfl rfl
  have hv2 : Value.okWide Tryd.prog W .any base0 26 v' := hval 1 26 v' rfl rfl
  unfold Value.okWide at hv1 hv2
  rw [Tryd.underlying25] at hv1
  rw [Tryd.underlying26] at hv2
  obtain ⟨cs, rfl, _⟩ := hv1
  obtain ⟨cs', rfl, _⟩ := hv2
  obtain ⟨fu, h1'⟩ := h1
  obtain ⟨fu', h2'⟩ := h2
  obtain ⟨b, hp, βp, vs, B1, o1, g1⟩ := rd25.2 fu _ _ h1' base β0 (base_ok hL)
  obtain ⟨l, hl, hcs⟩ := rdInts (n := 2) Tryd.underlying26 (by kernel_rfl) h2'
  obtain ⟨n0, n1, rfl⟩ : ∃ n0 n1, l = [n0, n1] := by
    match l, hl with | [n0, n1], _ => exact ⟨n0, n1, rfl⟩
  have g2 : Got hp βp ([n0, n1].map (Value.int .i64)) (Value.agg cs').cells.toList ([n0, n1].map (PV.int .i64)) := by rw [hcs]; exact got_ints _
  have hP : VP EW 12 [Go.RS.Enc.enc b, .agg [.int .i64 n0, .int .i64 n1]] (.bool true) := l_Coin rfl works_ok rfl b n0 n1
  refine (law_calls CC.low12 (args := #[.agg cs, .agg cs']) B1 o1 ((Got.agg g1).append (Got.agg g2)) hP).mono fun e W' he => ?_
  obtain ⟨rfl, hb⟩ := he
  exact ⟨_, rfl, _, _, _, [], p1 ++ p2, [], hW', trodAll_mk1 (shut_bool Tryd.underlying4 _),
    trodAll_mk2 (Below.trod laidOut (by kernel_rfl) (of_decide_eq_true (by kernel_rfl)) ⟨fu, h1'⟩ hb fun x hx => hlt x (by simp [hx])) (Below.trod laidOut (by kernel_rfl) (of_decide_eq_true (by kernel_rfl)) ⟨fu', h2'⟩ hb fun x hx => hlt x (by simp [hx])),
    rfl, hb.frame _, fun h => by cases h⟩

theorem said : Rows.CallerCoinSaid :=
  OpenClaim.holds_of_cond 12 Tryd.f12 rfl rfl rfl rfl rfl rfl rfl ⟨rfl, rfl, rfl, rfl, rfl⟩ rfl rfl rfl rfl rfl (by kernel_rfl) Tryd.func12 (by kernel_rfl)
    (of_decide_eq_true (by kernel_rfl)) (by unfold Func.isWrapper; first | (rw [if_pos (by decide +kernel)]; kernel_rfl) | (rw [if_neg (by decide +kernel)]; exact ⟨rfl, rfl⟩))
    (fun os started H enc _ F => by rw [OpenClaim.pre_eq_preRow]; exact lifted os started H enc F)

theorem plain (f : FuncId) (fn : Func) (hf : Tryd.pinned.checked.prog.funcNamed "remontoir/remontoirlaw09.CallerCoin" = some f) (hfn : Tryd.pinned.checked.prog.funcs[f]? = some fn) :
    false = Tryd.pinned.checked.prog.looks [] ∧ ∀ (j : Nat) t, fn.params[j]? = some t → Tryd.pinned.checked.prog.wantsStandIn t = false := by
  obtain rfl : f = 12 := Option.some.inj ((show Tryd.prog.funcNamed "remontoir/remontoirlaw09.CallerCoin" = some 12 by kernel_rfl).symm.trans hf) |>.symm
  obtain rfl : fn = Tryd.f12 := (Option.some.inj (Tryd.func12.symm.trans hfn)).symm
  refine ⟨by kernel_rfl, fun j t ht => ?_⟩
  rw [Tryd.params12] at ht
  have h25 : Tryd.prog.wantsStandIn 25 = false := by kernel_rfl
  have h26 : Tryd.prog.wantsStandIn 26 = false := by kernel_rfl
  match j with
  | 0 => obtain rfl : 25 = t := by simpa using ht
         exact h25
  | 1 => obtain rfl : 26 = t := by simpa using ht
         exact h26
  | j + 2 => simp at ht

theorem card : Rows.CallerCoinCardSaid :=
  Claim7.holds_tied_plain_at .later [] _ _ _ _ said (fun _ h => by cases h) (by kernel_rfl) (fun _ h => by cases h) callerCoin_row_tie rfl ⟨rfl, rfl⟩ (by kernel_rfl) rfl plain (by kernel_rfl)
end Go.Proofs.YtidnkmbicedmjaaDoor.coin

