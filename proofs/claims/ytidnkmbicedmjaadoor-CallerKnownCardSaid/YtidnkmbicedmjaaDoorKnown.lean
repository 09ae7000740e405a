/- Proved: the closed law CallerKnown returns true, its listed variable tied to the text; no further condition. -/
import Derived.Test.YtidnkmbicedmjaaDoorCards
import Derived.Test.YtidnkmbicedmjaaDoorTie
import Derived.ProofKit
import Derived.OpenShut
import Derived.LaidMore
import Derived.Deep.DeepHandedRow
import Derived.Test.YtidnkmbicedmjaaDoorCL
import Derived.Test.YtidnkmbicedmjaaDoorSimZ
import Derived.Test.YtidnkmbicedmjaaDoorKN13
import Derived.Test.YtidnkmbicedmjaaDoorKN14
import Derived.Test.YtidnkmbicedmjaaDoorKN29
import Derived.Test.YtidnkmbicedmjaaDoorKN37
import Derived.Test.YtidnkmbicedmjaaDoorKN38
namespace Go.Proofs.YtidnkmbicedmjaaDoor.known
open Go.ChangeShapes Go.WideShapes Go.ChangeAt Go.RowKit Go.RS

theorem own : ownKnob Tryd.prog.godebug = none := by kernel_rfl
theorem gPrices : Tryd.prog.globalNamed "remontoir/caller.prices" = some 0 := by kernel_rfl
theorem tPrices : ((Tryd.prog.globals[0]?).map (·.type) == some 95) = true := by kernel_rfl
theorem gSize : Tryd.prog.globals.size = 1 := by kernel_rfl
theorem mixed : Tryd.prog.follows .mixedOrders = true := by kernel_rfl

theorem door_met (os : Os) (args : Array Value) : laidMetH Tryd.prog Rows.callerKnownRow.laid ((World.doorLaid Tryd.prog 600 os).forCall (fun _ _ => 0) ⟨#[], args, []⟩).memory :=
  laidMetH_of_parts3 (fuel := 8) (laidMet_of_run' 8 (by kernel_rfl) (by kernel_rfl)) (by kernel_rfl) (by kernel_rfl)

theorem cells94 : Tryd.prog.cellsOf 94 = 1 := by kernel_rfl
theorem cells95 : Tryd.prog.cellsOf 95 = 2 := by kernel_rfl
theorem tPrices' : (Tryd.prog.globals[0]?).map (·.type) = some 95 := by simpa using tPrices

abbrev f95v : Value := .func (.func 95) #[] #[]
abbrev f96v : Value := .func (.func 96) #[] #[]
theorem of_laid {W : World} (h : laidMetH Tryd.prog Rows.callerKnownRow.laid W) : ∃ e fz, W.heap[0]? = some (.cells #[f95v, f96v] e fz) := by
  obtain ⟨g, t, cs, fuel, p, hg, ht, hv, hd⟩ := h.funcs (List.mem_singleton.2 rfl)
  obtain rfl := Option.some.inj (gPrices.symm.trans hg)
  obtain rfl := Option.some.inj (tPrices'.symm.trans ht)
  have hd' : DataW.trod (funcToken Tryd.prog) Tryd.prog W 0 (fun _ => true) true fuel 95 cs.toList = some (.agg [.held [40, 114, 101, 109, 111, 110, 116, 111, 105, 114, 47, 99, 97, 108, 108, 101, 114, 46, 104, 111, 117, 114, 41, 46, 102, 101, 101], .held [40, 114, 101, 109, 111, 110, 116, 111, 105, 114, 47, 99, 97, 108, 108, 101, 114, 46, 104, 111, 117, 114, 41, 46, 117, 110, 105, 116, 115]], p) := hd
  obtain ⟨xs, m, rfl, hx, hlen, hxl, hel⟩ := DataW.trod_array Tryd.underlying95 hd'
  rw [cells95] at hlen
  rw [cells94] at hel
  have h0 := hel 0 (by omega)
  have h1 := hel 1 (by omega)
  obtain ⟨x0, x1, rfl⟩ : ∃ x0 x1, xs = [x0, x1] := by
    match xs, hxl with
    | [x0, x1], _ => exact ⟨x0, x1, rfl⟩
  obtain ⟨c0, c1, hcs⟩ : ∃ c0 c1, cs.toList = [c0, c1] := by
    match hl : cs.toList, hlen with
    | [c0, c1], _ => exact ⟨c0, c1, rfl⟩
  rw [hcs] at h0 h1
  simp only [List.map_cons, List.map_nil, Prod.mk.injEq, DataW.agg.injEq, List.cons.injEq, and_true] at hx
  obtain ⟨⟨e0, e1⟩, _⟩ := hx
  obtain ⟨y0, q0⟩ := x0
  obtain ⟨y1, q1⟩ := x1
  simp only at e0 e1
  subst e0 e1
  obtain rfl := func_of_trod (f0 := 95) (v := c0) (q := q0) Tryd.underlying94 (by kernel_rfl) (by simpa using h0)
  obtain rfl := func_of_trod (f0 := 96) (v := c1) (q := q1) Tryd.underlying94 (by kernel_rfl) (by simpa using h1)
  have hcs' : cs = #[f95v, f96v] := by rw [← Array.toArray_toList (xs := cs), hcs]
  subst hcs'
  unfold World.var? at hv
  rw [gPrices] at hv
  simp only [Option.bind_some] at hv
  split at hv
  · rename_i cs e fz he
    cases hv
    exact ⟨e, fz, he⟩
  · cases hv

def base : AH := #[.cells [f95v, f96v]]
theorem base_rel {W : World} (h : laidMetH Tryd.prog Rows.callerKnownRow.laid W) : HRel Tryd.prog base.size W.heap.size (bset (fun _ => none) 0 (0, (0, 2))) base W := by
  obtain ⟨e, fz, he⟩ := of_laid h
  have h0 : 0 < W.heap.size := (Array.getElem?_eq_some_iff.1 he).1
  have inv : ∀ b r d, bset (fun _ => none) 0 (0, (0, 2)) b = some (r, d) → b = 0 ∧ r = 0 ∧ d = (0, 2) := by
    intro b r d hb
    unfold bset at hb
    split at hb
    · rename_i hb0; cases hb; exact ⟨hb0, rfl, rfl⟩
    · cases hb
  refine ⟨fun b r d hb => ?_, fun b r d o hb ho => ?_, fun b r d hl hb => ?_, fun b r d hl hb => ?_, fun b b' r d d' hl hl' hb hb' _ _ => ?_, fun g hg => ?_, Nat.le_refl _, Nat.le_refl _⟩
  · obtain ⟨rfl, rfl, rfl⟩ := inv b r d hb
    exact ⟨by decide, h0⟩
  · obtain ⟨rfl, rfl, rfl⟩ := inv b r d hb
    have : o = .cells [f95v, f96v] := by simpa [base] using ho.symm
    subst this
    refine ⟨_, e, fz, he, fun hle => absurd hle (by decide), rfl, fun i v hv => ⟨v, by simpa using hv, ?_⟩⟩
    have hcl : ∀ v ∈ [f95v, f96v], closedS v = true := by decide
    exact closedS_rel (hcl v (List.mem_of_getElem? hv))
  · obtain ⟨rfl, _, _⟩ := inv b r d hb; exact absurd hl (by decide)
  · obtain ⟨_, rfl, _⟩ := inv b r d hb; exact h0
  · obtain ⟨rfl, _, _⟩ := inv b r d hb; exact absurd hl (by decide)
  · rw [gSize] at hg
    have : g = 0 := by omega
    subst this
    exact ⟨2, bset_same _ _ _⟩

noncomputable def env0 : Env := ⟨CC.G, fun _ _ _ _ => False⟩
theorem body15 : CC.F15.body = seqL (KN.seg 0 13) (seqL (KN.seg 13 14) (seqL (KN.seg 14 29) (seqL (KN.seg 29 37) (seqL (KN.seg 37 38) .ret)))) := by kernel_rfl
theorem h0_ah : KN.h0.ah = base := by kernel_rfl
theorem res15 : resultsA CC.F15.results KN.fr38.get KN.h38.ah = some (.bool true) := by kernel_rfl
theorem fn15 : CC.G 15 = some CC.F15 := by kernel_rfl
theorem nt15 : Nat.ble 0 CC.F15.ntmps = true := by kernel_rfl
theorem run15 : B env0 1 (.code CC.F15.body (argsFr []) base) (.fr .ret KN.fr38.get KN.h38.ah) := by
  rw [body15, ← h0_ah]
  exact pieceL_seq (G := env0) (fr := KN.fr0) KN.p13 (pieceL_seq (G := env0) KN.p14 (pieceL_seq (G := env0) KN.p29 (pieceL_seq (G := env0) KN.p37 (pieceL_seq (G := env0) KN.p38 .ret))))
theorem known_B : ∃ h1, B env0 base.size (.fn (.func (.func 15) #[] #[]) [] base) (.v (.bool true) h1) :=
  ⟨_, .fn_func (first := #[]) (cap := #[]) fn15 run15 (Nat.le_of_ble_eq_true nt15) (.inr rfl) res15⟩

theorem known_calls {W : World} (h : laidMetH Tryd.prog Rows.callerKnownRow.laid W) : Calls Tryd.prog 15 #[] W fun e W' => e = .returned (.bool true) ∧ Below W.heap.size W W' := by
  obtain ⟨h1, hB⟩ := known_B
  refine (close (G := env0) (fun f A hf => CC.lowG f A hf) mixed CC.low15 (β := bset (fun _ => none) 0 (0, (0, 2))) (args' := #[]) (fun f args v h hp => hp.elim) hB (.nil _) (base_rel h)).mono fun e W' he => ?_
  obtain ⟨β1, v', rfl, hv, hb⟩ := he
  exact ⟨by rw [hv.bool_inv], hb⟩

set_option maxRecDepth 100000 in
theorem lifted (os : Os) (started : os.Started) (H : Type) (enc : TypeId × Value → H) (F : Stop.Interp) :
    ReturnsInHanded {} Tryd.checked os 15 .any ((OpenSpec.ofChange Rows.callerKnownSpec).preRow enc Tryd.prog Tryd.f15 Rows.callerKnownRow.domain false Rows.callerKnownRow.laid) (((OpenSpec.ofChange Rows.callerKnownSpec).at F).post enc Tryd.prog Tryd.f15 false true false false) := by
  refine returnsInHanded_of_row (C := Tryd.checked) (s := OpenSpec.ofChange Rows.callerKnownSpec) own started (by kernel_rfl) Tryd.func15
    (witness_row_at (enc := enc) (C := Tryd.checked) false (World.doorLaid Tryd.prog 600 os) #[] rfl (by kernel_rfl) (by kernel_rfl) (by kernel_rfl)
      (OpenSpec.preRow_of_cond 8 (x := ([], [], [])) (by kernel_rfl) (by kernel_rfl) (fun k hk => by cases hk) (by kernel_rfl) (door_met os _))) ?_
  intro W base0 args ds gs before hval hW _ _ _ hL _ _
  have hW' := hW
  obtain ⟨p, q, hA0, hV, rfl, hfz, hnd⟩ := hW
  have hA : DataW.TrodAll enc Tryd.prog W 0 (fun _ => true) true Tryd.f15.params.toList args.toList ds p := hA0
  rw [Tryd.params15] at hA hval
  obtain ⟨ha, rfl, rfl⟩ := trodAll_none hA
  obtain rfl : args = #[] := by simpa using ha
  obtain ⟨rfl, rfl⟩ := trodVars_none hV
  simp only [List.append_nil] at hW'
  refine (known_calls hL).mono fun e W' he => ?_
  obtain ⟨rfl, hb⟩ := he
  exact ⟨_, rfl, _, _, _, [], [], [], hW', trodAll_mk1 (shut_bool Tryd.underlying4 _), rfl, rfl, hb.frame _, fun h => by cases h⟩

theorem said : Rows.CallerKnownSaid :=
  OpenClaim.holds_of_cond 15 Tryd.f15 rfl rfl rfl rfl rfl rfl rfl ⟨rfl, rfl, rfl, rfl, rfl⟩ rfl rfl rfl rfl rfl (by kernel_rfl) Tryd.func15 (by kernel_rfl)
    (of_decide_eq_true (by kernel_rfl)) (by unfold Func.isWrapper; first | (rw [if_pos (by decide +kernel)]; kernel_rfl) | (rw [if_neg (by decide +kernel)]; exact ⟨rfl, rfl⟩))
    (fun os started H enc _ F => by rw [OpenClaim.pre_eq_preRow]; exact lifted os started H enc F)

theorem plain (f : FuncId) (fn : Func) (hf : Tryd.pinned.checked.prog.funcNamed "remontoir/remontoirlaw09.CallerKnown" = some f) (hfn : Tryd.pinned.checked.prog.funcs[f]? = some fn) :
    false = Tryd.pinned.checked.prog.looks [] ∧ ∀ (j : Nat) t, fn.params[j]? = some t → Tryd.pinned.checked.prog.wantsStandIn t = false := by
  obtain rfl : f = 15 := Option.some.inj ((show Tryd.prog.funcNamed "remontoir/remontoirlaw09.CallerKnown" = some 15 by kernel_rfl).symm.trans hf) |>.symm
  obtain rfl : fn = Tryd.f15 := (Option.some.inj (Tryd.func15.symm.trans hfn)).symm
  refine ⟨by kernel_rfl, fun j t ht => ?_⟩
  rw [Tryd.params15] at ht
  simp at ht

theorem card : Rows.CallerKnownCardSaid :=
  Claim7.holds_tied_plain_at .later [] _ _ _ _ said (fun _ h => by cases h) (by kernel_rfl) (fun _ h => by cases h) callerKnown_row_tie rfl ⟨rfl, rfl⟩ (by kernel_rfl) rfl plain (by kernel_rfl)
end Go.Proofs.YtidnkmbicedmjaaDoor.known
