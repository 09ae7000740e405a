/- What the laws of the chapter share: the variable, the base, the call. -/
import Derived.Test.YtcbkaiakncbcbaaDoorCards
import Derived.Test.YtcbkaiakncbcbaaDoorTie
import Derived.ProofKit
import Derived.OpenShut
import Derived.LaidMore
import Derived.Carry
import Derived.Deep.DeepHandedRow
import Derived.Test.YtcbkaiakncbcbaaDoorDL
import Derived.Test.YtcbkaiakncbcbaaDoorSmc
import Derived.Test.YtcbkaiakncbcbaaDoorPvc
import Derived.Test.YtcbkaiakncbcbaaDoorInp
import Derived.Test.YtcbkaiakncbcbaaDoorVwa
set_option linter.all false
namespace Go.Proofs.YtcbkaiakncbcbaaDoor.open_
open Go.ChangeShapes Go.WideShapes Go.ChangeAt Go.RowKit Go.RS Go.RS.DC
open Go.RS.Enc (enc dec)

theorem own : ownKnob Tryd.prog.godebug = none := by kernel_rfl
theorem gV : Tryd.prog.globalNamed "remontoir/voice.parts" = some 0 := by kernel_rfl
theorem gD : Tryd.prog.globalNamed "remontoir/dial.parts" = some 1 := by kernel_rfl
theorem tV : ((Tryd.prog.globals[0]?).map (·.type) == some 94) = true := by kernel_rfl
theorem tD : ((Tryd.prog.globals[1]?).map (·.type) == some 161) = true := by kernel_rfl
theorem gSize : Tryd.prog.globals.size = 2 := by kernel_rfl
theorem mixed : Tryd.prog.follows .mixedOrders = true := by kernel_rfl

theorem cells93 : Tryd.prog.cellsOf 93 = 1 := by kernel_rfl
theorem cells94 : Tryd.prog.cellsOf 94 = 3 := by kernel_rfl
theorem cells160 : Tryd.prog.cellsOf 160 = 1 := by kernel_rfl
theorem cells161 : Tryd.prog.cellsOf 161 = 2 := by kernel_rfl
theorem tV' : (Tryd.prog.globals[0]?).map (·.type) = some 94 := by simpa using tV
theorem tD' : (Tryd.prog.globals[1]?).map (·.type) = some 161 := by simpa using tD
theorem of_laidV {W : World} (h : laidMetH Tryd.prog Rows.voiceSaysRow.laid W) : ∃ e fz, W.heap[0]? = some (.cells #[vhour, vminute, vsecond] e fz) := by
  obtain ⟨g, t, cs, fuel, p, hg, ht, hv, hd⟩ := h.funcs (List.mem_cons_of_mem _ (List.mem_singleton.2 rfl))
  obtain rfl := Option.some.inj (gV.symm.trans hg)
  obtain rfl := Option.some.inj (tV'.symm.trans ht)
  have hd' : DataW.trod (funcToken Tryd.prog) Tryd.prog W 0 (fun _ => true) true fuel 94 cs.toList = some (.agg [.held [40, 114, 101, 109, 111, 110, 116, 111, 105, 114, 47, 118, 111, 105, 99, 101, 46, 114, 101, 97, 100, 105, 110, 103, 41, 46, 104, 111, 117, 114], .held [40, 114, 101, 109, 111, 110, 116, 111, 105, 114, 47, 118, 111, 105, 99, 101, 46, 114, 101, 97, 100, 105, 110, 103, 41, 46, 109, 105, 110, 117, 116, 101], .held [40, 114, 101, 109, 111, 110, 116, 111, 105, 114, 47, 118, 111, 105, 99, 101, 46, 114, 101, 97, 100, 105, 110, 103, 41, 46, 115, 101, 99, 111, 110, 100]], p) := hd
  obtain ⟨xs, m, rfl, hx, hlen, hxl, hel⟩ := DataW.trod_array Tryd.underlying94 hd'
  rw [cells94] at hlen
  rw [cells93] at hel
  have h0 := hel 0 (by omega)
  have h1 := hel 1 (by omega)
  have h2 := hel 2 (by omega)
  obtain ⟨x0, x1, x2, rfl⟩ : ∃ x0 x1 x2, xs = [x0, x1, x2] := by
    match xs, hxl with
    | [x0, x1, x2], _ => exact ⟨x0, x1, x2, rfl⟩
  obtain ⟨c0, c1, c2, hcs⟩ : ∃ c0 c1 c2, cs.toList = [c0, c1, c2] := by
    match hl : cs.toList, hlen with
    | [c0, c1, c2], _ => exact ⟨c0, c1, c2, rfl⟩
  rw [hcs] at h0 h1 h2
  simp only [List.map_cons, List.map_nil, Prod.mk.injEq, DataW.agg.injEq, List.cons.injEq, and_true] at hx
  obtain ⟨⟨e0, e1, e2⟩, _⟩ := hx
  obtain ⟨y0, q0⟩ := x0
  obtain ⟨y1, q1⟩ := x1
  obtain ⟨y2, q2⟩ := x2
  simp only at e0 e1 e2
  subst e0 e1 e2
  obtain rfl := func_of_trod (f0 := 137) (v := c0) (q := q0) Tryd.underlying93 (by kernel_rfl) (by simpa using h0)
  obtain rfl := func_of_trod (f0 := 139) (v := c1) (q := q1) Tryd.underlying93 (by kernel_rfl) (by simpa using h1)
  obtain rfl := func_of_trod (f0 := 140) (v := c2) (q := q2) Tryd.underlying93 (by kernel_rfl) (by simpa using h2)
  have hcs' : cs = #[vhour, vminute, vsecond] := by
    rw [← Array.toArray_toList (xs := cs), hcs]
    rfl
  subst hcs'
  unfold World.var? at hv
  rw [gV] at hv
  simp only [Option.bind_some] at hv
  split at hv
  · rename_i cs e fz he
    cases hv
    exact ⟨e, fz, he⟩
  · cases hv
theorem of_laidD {W : World} (h : laidMetH Tryd.prog Rows.voiceSaysRow.laid W) : ∃ e fz, W.heap[1]? = some (.cells #[f130v, f131v] e fz) := by
  obtain ⟨g, t, cs, fuel, p, hg, ht, hv, hd⟩ := h.funcs (List.mem_cons.2 (.inl rfl))
  obtain rfl := Option.some.inj (gD.symm.trans hg)
  obtain rfl := Option.some.inj (tD'.symm.trans ht)
  have hd' : DataW.trod (funcToken Tryd.prog) Tryd.prog W 0 (fun _ => true) true fuel 161 cs.toList = some (.agg [.held [40, 114, 101, 109, 111, 110, 116, 111, 105, 114, 47, 100, 105, 97, 108, 46, 99, 97, 108, 101, 110, 100, 97, 114, 41, 46, 104, 111, 117, 114], .held [40, 114, 101, 109, 111, 110, 116, 111, 105, 114, 47, 100, 105, 97, 108, 46, 99, 97, 108, 101, 110, 100, 97, 114, 41, 46, 109, 105, 110, 117, 116, 101]], p) := hd
  obtain ⟨xs, m, rfl, hx, hlen, hxl, hel⟩ := DataW.trod_array Tryd.underlying161 hd'
  rw [cells161] at hlen
  rw [cells160] at hel
  have h0 := hel 0 (by omega)
  have h1 := hel 1 (by omega)
  obtain ⟨x0, x1, rfl⟩ : ∃ x0 x1, xs = [x0, x1] := by
    match xs, hxl with
    | [x0, x1], _ => exact ⟨x0, x1, rfl⟩
  obtain ⟨c0, c1, hcs⟩ : ∃ c0 c1, cs.toList = [c0, c1] := by
    match hl : cs.toList, hlen with
    | [c0, c1], _ => exact ⟨c0, c1, rfl⟩
  rw [hcs] at h0 h1
  simp only [List.map_cons, List.map_nil, Prod.mk.injEq, DataW.agg.injEq, List.cons.injEq, and_true] at hx
  obtain ⟨⟨e0, e1⟩, _⟩ := hx
  obtain ⟨y0, q0⟩ := x0
  obtain ⟨y1, q1⟩ := x1
  simp only at e0 e1
  subst e0 e1
  obtain rfl := func_of_trod (f0 := 141) (v := c0) (q := q0) Tryd.underlying160 (by kernel_rfl) (by simpa using h0)
  obtain rfl := func_of_trod (f0 := 142) (v := c1) (q := q1) Tryd.underlying160 (by kernel_rfl) (by simpa using h1)
  have hcs' : cs = #[f130v, f131v] := by rw [← Array.toArray_toList (xs := cs), hcs]
  subst hcs'
  unfold World.var? at hv
  rw [gD] at hv
  simp only [Option.bind_some] at hv
  split at hv
  · rename_i cs e fz he
    cases hv
    exact ⟨e, fz, he⟩
  · cases hv
def base : AH := #[.cells [vhour, vminute, vsecond], .cells [f130v, f131v]]
abbrev β0 : Bij := bset (bset (fun _ => none) 0 (0, (0, 3))) 1 (1, (0, 2))
theorem base_ok {W : World} (h : laidMetH Tryd.prog Rows.voiceSaysRow.laid W) : Base Tryd.prog W base β0 := by
  obtain ⟨e, fz, he⟩ := of_laidV h
  obtain ⟨e', fz', he'⟩ := of_laidD h
  have h1 : 1 < W.heap.size := (Array.getElem?_eq_some_iff.1 he').1
  have inv : ∀ b r d, β0 b = some (r, d) → (b = 0 ∧ r = 0 ∧ d = (0, 3)) ∨ (b = 1 ∧ r = 1 ∧ d = (0, 2)) := by
    intro b r d hb
    unfold β0 bset at hb
    split at hb
    · rename_i hb0; cases hb; exact .inr ⟨hb0, rfl, rfl⟩
    · split at hb
      · rename_i hb0; cases hb; exact .inl ⟨hb0, rfl, rfl⟩
      · cases hb
  refine ⟨fun b r d hb => ?_, fun b r d o hb ho => ?_, ⟨_, rfl⟩⟩
  · rcases inv b r d hb with ⟨rfl, rfl, rfl⟩ | ⟨rfl, rfl, rfl⟩
    · exact ⟨by decide, by omega⟩
    · exact ⟨by decide, h1⟩
  · rcases inv b r d hb with ⟨rfl, rfl, rfl⟩ | ⟨rfl, rfl, rfl⟩
    · have : o = .cells [vhour, vminute, vsecond] := by simpa [base] using ho.symm
      subst this
      refine ⟨_, e, fz, he, fun hle => hle.elim, rfl, fun i v hv => ⟨v, by simpa using hv, ?_⟩⟩
      have hcl : ∀ v ∈ [vhour, vminute, vsecond], closedS v = true := by decide
      exact closedS_rel (hcl v (List.mem_of_getElem? hv))
    · have : o = .cells [f130v, f131v] := by simpa [base] using ho.symm
      subst this
      refine ⟨_, e', fz', he', fun hle => hle.elim, rfl, fun i v hv => ⟨v, by simpa using hv, ?_⟩⟩
      have hcl : ∀ v ∈ [f130v, f131v], closedS v = true := by decide
      exact closedS_rel (hcl v (List.mem_of_getElem? hv))
noncomputable def env0 : Env := ⟨DC.G, fun _ _ _ _ => False⟩
noncomputable def EW : VEnv := ⟨env0, fun g => if g = 0 then some [vhour, vminute, vsecond] else if g = 1 then some [f130v, f131v] else none⟩
theorem orel_wr {P : Program} {β : Bij} {wr wr' : Prop} (hw : wr' → wr) {o : AObj} {x : Option Obj} {d : Nat × Nat} (h : ORel P β wr o x d) : ORel P β wr' o x d := by
  cases o with
  | cells c => obtain ⟨c', e, fz, h1, h2, h3⟩ := h; exact ⟨c', e, fz, h1, fun hx => h2 (hw hx), h3⟩
  | map es clock => exact h
  | loop L => exact h
  | junk => exact h
theorem hrel {W : World} {h : AH} {β : Bij} (B : Base Tryd.prog W h β) (hle : BLe β0 β) : HRel Tryd.prog h.size W.heap.size β h W :=
  ⟨B.dom, fun b r d o hb ho => orel_wr (fun hx => by have := (B.dom b r d hb).1; omega) (B.obj b r d o hb ho), fun b r d hl hb => by have := (B.dom b r d hb).1; omega,
    fun b r d _ hb => (B.dom b r d hb).2, fun b b' r d d' hl _ hb _ _ _ => by have := (B.dom b r d hb).1; omega,
    fun g hg => by rw [gSize] at hg
                   by_cases h0 : g = 0
                   · subst h0; exact ⟨3, hle 0 _ rfl⟩
                   · obtain rfl : g = 1 := by omega
                     exact ⟨2, hle 1 _ rfl⟩, Nat.le_refl _, Nat.le_refl _⟩
theorem law_calls {W : World} {f : Nat} {A : AFn} (hlow : lowFn Tryd.prog f = some A) {args : Array Value} {h : AH} {β : Bij} {vs : List Value} {ps : List PV} (B : Base Tryd.prog W h β) (o : Onto base β0 h β) (g : Got h β vs args.toList ps)
    (hP : VP EW f ps (.bool true)) : Calls Tryd.prog f args W fun e W' => e = .returned (.bool true) ∧ Below W.heap.size W W' := by
  have hb0 : h[0]? = some (.cells [vhour, vminute, vsecond]) := o.eq 0 (by decide)
  have hb1 : h[1]? = some (.cells [f130v, f131v]) := o.eq 1 (by decide)
  have h1 : 2 ≤ h.size := o.sz
  obtain ⟨v, h', hB, _, hv⟩ := hP h.size (fun b => b < h.size) h vs (Nat.le_refl _) (fun gl c hg => by
    unfold EW at hg
    simp only at hg
    split at hg
    · rename_i hg0; subst hg0; cases hg; exact ⟨hb0, by omega, by omega, by decide⟩
    · split at hg
      · rename_i hg0; subst hg0; cases hg; exact ⟨hb1, h1, h1, by decide⟩
      · cases hg) g.2
  have hv' : v = .bool true := by cases hv; rfl
  subst hv'
  refine (close (G := env0) (fun f A hf => DC.lowG f A hf) mixed hlow (β := β) (args' := args) (fun f args v h2 hp => hp.elim) hB g.1 (hrel B o.le)).mono fun e W' he => ?_
  · obtain ⟨β1, v', rfl, hv, hb⟩ := he
    exact ⟨by rw [hv.bool_inv], hb⟩
theorem Got.agg {h : AH} {β : Bij} {vs : List Value} {cs : Array Value} {ps : List PV} (g : Got h β vs cs.toList ps) : Got h β [.agg vs.toArray] [.agg cs] [.agg ps] :=
  .one (.agg' (by simpa using g.1)) (.agg (by simpa using g.2.1) (fun i v v' a b => g.2.2 i v v' a (by simpa using b)))
theorem laidOut : laidOutB Tryd.prog = true := by kernel_rfl
end Go.Proofs.YtcbkaiakncbcbaaDoor.open_

