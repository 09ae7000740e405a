/- What the laws of the chapter share: the variables, the base, the call. -/
import Derived.Test.YtmlogniaahnamaaDoorCards
import Derived.Test.YtmlogniaahnamaaDoorTie
import Derived.ProofKit
import Derived.OpenShut
import Derived.LaidMore
import Derived.ChangeArms
import Derived.ChangeSame
import Derived.Carry
import Derived.Deep.DeepHandedRow
import Derived.Test.YtmlogniaahnamaaDoorDL
import Derived.Test.YtmlogniaahnamaaDoorSmc
import Derived.Test.YtmlogniaahnamaaDoorPvc
import Derived.Test.YtmlogniaahnamaaDoorInp
import Derived.Test.YtmlogniaahnamaaDoorCwc
set_option linter.all false
namespace Go.Proofs.YtmlogniaahnamaaDoor.open_
open Go.ChangeShapes Go.WideShapes Go.ChangeAt Go.RowKit Go.RS Go.RS.DC
open Go.RS.Enc (enc dec)

theorem own : ownKnob Tryd.prog.godebug = none := by kernel_rfl
theorem gK : Tryd.prog.globalNamed "remontoir/court.kinds" = some 0 := by kernel_rfl
theorem gD : Tryd.prog.globalNamed "remontoir/dial.parts" = some 1 := by kernel_rfl
theorem tK : ((Tryd.prog.globals[0]?).map (·.type) == some 90) = true := by kernel_rfl
theorem tD : ((Tryd.prog.globals[1]?).map (·.type) == some 160) = true := by kernel_rfl
theorem gSize : Tryd.prog.globals.size = 2 := by kernel_rfl
theorem mixed : Tryd.prog.follows .mixedOrders = true := by kernel_rfl

theorem cells88 : Tryd.prog.cellsOf 88 = 1 := by kernel_rfl
theorem cells4 : Tryd.prog.cellsOf 4 = 1 := by kernel_rfl
theorem cells89 : Tryd.prog.cellsOf 89 = 2 := by kernel_rfl
theorem cells90 : Tryd.prog.cellsOf 90 = 6 := by kernel_rfl
theorem cells159 : Tryd.prog.cellsOf 159 = 1 := by kernel_rfl
theorem cells160 : Tryd.prog.cellsOf 160 = 2 := by kernel_rfl
theorem tK' : (Tryd.prog.globals[0]?).map (·.type) = some 90 := by simpa using tK
theorem tD' : (Tryd.prog.globals[1]?).map (·.type) = some 160 := by simpa using tD
theorem of_laidK {W : World} (h : laidMetH Tryd.prog Rows.courtStricterRow.laid W) : ∃ e fz, W.heap[0]? = some (.cells kindsV.toArray e fz) := by
  obtain ⟨g, t, cs, fuel, p, hg, ht, hv, hd⟩ := h.funcs (List.mem_cons_of_mem _ (List.mem_singleton.2 rfl))
  obtain rfl := Option.some.inj (gK.symm.trans hg)
  obtain rfl := Option.some.inj (tK'.symm.trans ht)
  have hd' : DataW.trod (funcToken Tryd.prog) Tryd.prog W 0 (fun _ => true) true fuel 90 cs.toList = some (.agg [.agg [.held [40, 114, 101, 109, 111, 110, 116, 111, 105, 114, 47, 99, 111, 117, 114, 116, 46, 116, 114, 105, 97, 108, 41, 46, 115, 97, 105, 100], .lit (.bool true)], .agg [.held [40, 114, 101, 109, 111, 110, 116, 111, 105, 114, 47, 99, 111, 117, 114, 116, 46, 116, 114, 105, 97, 108, 41, 46, 97, 104, 101, 97, 100], .lit (.bool false)], .agg [.held [40, 114, 101, 109, 111, 110, 116, 111, 105, 114, 47, 99, 111, 117, 114, 116, 46, 116, 114, 105, 97, 108, 41, 46, 119, 105, 116, 104, 105, 110], .lit (.bool false)]], p) := hd
  obtain ⟨xs, m, rfl, hx, hlen, hxl, hel⟩ := DataW.trod_array Tryd.underlying90 hd'
  rw [cells90] at hlen
  rw [cells89] at hel
  have h0 := hel 0 (by omega)
  have h1 := hel 1 (by omega)
  have h2 := hel 2 (by omega)
  obtain ⟨x0, x1, x2, rfl⟩ : ∃ x0 x1 x2, xs = [x0, x1, x2] := by
    match xs, hxl with
    | [x0, x1, x2], _ => exact ⟨x0, x1, x2, rfl⟩
  obtain ⟨c0, c1, c2, c3, c4, c5, hcs⟩ : ∃ c0 c1 c2 c3 c4 c5, cs.toList = [c0, c1, c2, c3, c4, c5] := by
    match hl : cs.toList, hlen with
    | [c0, c1, c2, c3, c4, c5], _ => exact ⟨c0, c1, c2, c3, c4, c5, rfl⟩
  rw [hcs] at h0 h1 h2
  have h0 : DataW.trod (funcToken Tryd.prog) Tryd.prog W 0 (fun _ => true) true m 89 [c0, c1] = some x0 := h0
  have h1 : DataW.trod (funcToken Tryd.prog) Tryd.prog W 0 (fun _ => true) true m 89 [c2, c3] = some x1 := h1
  have h2 : DataW.trod (funcToken Tryd.prog) Tryd.prog W 0 (fun _ => true) true m 89 [c4, c5] = some x2 := h2
  obtain ⟨y0, z0, n0, rfl, _, f0, f1⟩ := trod_struct2 Tryd.underlying89 h0
  obtain ⟨y1, z1, n1, rfl, _, f2, f3⟩ := trod_struct2 Tryd.underlying89 h1
  obtain ⟨y2, z2, n2, rfl, _, f4, f5⟩ := trod_struct2 Tryd.underlying89 h2
  simp only [List.map_cons, List.map_nil, Prod.mk.injEq, DataW.agg.injEq, List.cons.injEq, and_true] at hx
  obtain ⟨⟨⟨e0, e1⟩, ⟨e2, e3⟩, e4, e5⟩, _⟩ := hx
  obtain ⟨a0, q0⟩ := y0
  obtain ⟨a1, q1⟩ := y1
  obtain ⟨a2, q2⟩ := y2
  obtain ⟨b0, r0⟩ := z0
  obtain ⟨b1, r1⟩ := z1
  obtain ⟨b2, r2⟩ := z2
  simp only at e0 e1 e2 e3 e4 e5
  subst e0 e1 e2 e3 e4 e5
  obtain rfl := func_of_trod (f0 := 126) (v := c0) (q := q0) Tryd.underlying88 (by kernel_rfl) (by simpa [cells88] using f0)
  obtain rfl := func_of_trod (f0 := 127) (v := c2) (q := q1) Tryd.underlying88 (by kernel_rfl) (by simpa [cells88] using f2)
  obtain rfl := func_of_trod (f0 := 128) (v := c4) (q := q2) Tryd.underlying88 (by kernel_rfl) (by simpa [cells88] using f4)
  obtain ⟨w0, hw0, hw0'⟩ := DataW.trod_bool Tryd.underlying4 f1
  obtain ⟨w1, hw1, hw1'⟩ := DataW.trod_bool Tryd.underlying4 f3
  obtain ⟨w2, hw2, hw2'⟩ := DataW.trod_bool Tryd.underlying4 f5
  have k0 : [c1] = [Value.bool w0] := by simpa [cells4] using hw0
  have k1 : [c3] = [Value.bool w1] := by simpa [cells4] using hw1
  have k2 : [c5] = [Value.bool w2] := by simpa [cells4] using hw2
  cases k0; cases k1; cases k2
  cases hw0'; cases hw1'; cases hw2'
  have hcs' : cs = kindsV.toArray := by
    rw [← Array.toArray_toList (xs := cs), hcs]
  subst hcs'
  unfold World.var? at hv
  rw [gK] at hv
  simp only [Option.bind_some] at hv
  split at hv
  · rename_i cs e fz he
    cases hv
    exact ⟨e, fz, he⟩
  · cases hv
theorem of_laidD {W : World} (h : laidMetH Tryd.prog Rows.courtStricterRow.laid W) : ∃ e fz, W.heap[1]? = some (.cells #[f130v, f131v] e fz) := by
  obtain ⟨g, t, cs, fuel, p, hg, ht, hv, hd⟩ := h.funcs (List.mem_cons.2 (.inl rfl))
  obtain rfl := Option.some.inj (gD.symm.trans hg)
  obtain rfl := Option.some.inj (tD'.symm.trans ht)
  have hd' : DataW.trod (funcToken Tryd.prog) Tryd.prog W 0 (fun _ => true) true fuel 160 cs.toList = some (.agg [.held [40, 114, 101, 109, 111, 110, 116, 111, 105, 114, 47, 100, 105, 97, 108, 46, 99, 97, 108, 101, 110, 100, 97, 114, 41, 46, 104, 111, 117, 114], .held [40, 114, 101, 109, 111, 110, 116, 111, 105, 114, 47, 100, 105, 97, 108, 46, 99, 97, 108, 101, 110, 100, 97, 114, 41, 46, 109, 105, 110, 117, 116, 101]], p) := hd
  obtain ⟨xs, m, rfl, hx, hlen, hxl, hel⟩ := DataW.trod_array Tryd.underlying160 hd'
  rw [cells160] at hlen
  rw [cells159] at hel
  have h0 := hel 0 (by omega)
  have h1 := hel 1 (by omega)
  obtain ⟨x0, x1, rfl⟩ : ∃ x0 x1, xs = [x0, x1] := by
    match xs, hxl with
    | [x0, x1], _ => exact ⟨x0, x1, rfl⟩
  obtain ⟨c0, c1, hcs⟩ : ∃ c0 c1, cs.toList = [c0, c1] := by
    match hl : cs.toList, hlen with
    | [c0, c1], _ => exact ⟨c0, c1, rfl⟩
  rw [hcs] at h0 h1
  simp only [List.map_cons, List.map_nil, Prod.mk.injEq, DataW.agg.injEq, List.cons.injEq, and_true] at hx
  obtain ⟨⟨e0, e1⟩, _⟩ := hx
  obtain ⟨y0, q0⟩ := x0
  obtain ⟨y1, q1⟩ := x1
  simp only at e0 e1
  subst e0 e1
  obtain rfl := func_of_trod (f0 := 132) (v := c0) (q := q0) Tryd.underlying159 (by kernel_rfl) (by simpa using h0)
  obtain rfl := func_of_trod (f0 := 133) (v := c1) (q := q1) Tryd.underlying159 (by kernel_rfl) (by simpa using h1)
  have hcs' : cs = #[f130v, f131v] := by rw [← Array.toArray_toList (xs := cs), hcs]
  subst hcs'
  unfold World.var? at hv
  rw [gD] at hv
  simp only [Option.bind_some] at hv
  split at hv
  · rename_i cs e fz he
    cases hv
    exact ⟨e, fz, he⟩
  · cases hv
def base : AH := #[.cells kindsV, .cells [f130v, f131v]]
abbrev β0 : Bij := bset (bset (fun _ => none) 0 (0, (0, 6))) 1 (1, (0, 2))
theorem base_ok {W : World} (h : laidMetH Tryd.prog Rows.courtStricterRow.laid W) : Base Tryd.prog W base β0 := by
  obtain ⟨e, fz, he⟩ := of_laidK h
  obtain ⟨e', fz', he'⟩ := of_laidD h
  have h1 : 1 < W.heap.size := (Array.getElem?_eq_some_iff.1 he').1
  have inv : ∀ b r d, β0 b = some (r, d) → (b = 0 ∧ r = 0 ∧ d = (0, 6)) ∨ (b = 1 ∧ r = 1 ∧ d = (0, 2)) := by
    intro b r d hb
    unfold β0 bset at hb
    split at hb
    · rename_i hb0; cases hb; exact .inr ⟨hb0, rfl, rfl⟩
    · split at hb
      · rename_i hb0; cases hb; exact .inl ⟨hb0, rfl, rfl⟩
      · cases hb
  refine ⟨fun b r d hb => ?_, fun b r d o hb ho => ?_, ⟨_, rfl⟩⟩
  · rcases inv b r d hb with ⟨rfl, rfl, rfl⟩ | ⟨rfl, rfl, rfl⟩
    · exact ⟨by decide, by omega⟩
    · exact ⟨by decide, h1⟩
  · rcases inv b r d hb with ⟨rfl, rfl, rfl⟩ | ⟨rfl, rfl, rfl⟩
    · have : o = .cells kindsV := by simpa [base] using ho.symm
      subst this
      refine ⟨_, e, fz, he, fun hle => hle.elim, rfl, fun i v hv => ⟨v, by simpa using hv, ?_⟩⟩
      have hcl : ∀ v ∈ kindsV, closedS v = true := by decide
      exact closedS_rel (hcl v (List.mem_of_getElem? hv))
    · have : o = .cells [f130v, f131v] := by simpa [base] using ho.symm
      subst this
      refine ⟨_, e', fz', he', fun hle => hle.elim, rfl, fun i v hv => ⟨v, by simpa using hv, ?_⟩⟩
      have hcl : ∀ v ∈ [f130v, f131v], closedS v = true := by decide
      exact closedS_rel (hcl v (List.mem_of_getElem? hv))
noncomputable def env0 : Env := ⟨DC.G, fun _ _ _ _ => False, fun _ _ _ _ _ _ => False⟩
noncomputable def EW : VEnv := ⟨env0, fun g => if g = 0 then some kindsV else if g = 1 then some [f130v, f131v] else none⟩
theorem orel_wr {P : Program} {β : Bij} {wr wr' : Prop} (hw : wr' → wr) {o : AObj} {x : Option Obj} {d : Nat × Nat} (h : ORel P β wr o x d) : ORel P β wr' o x d := by
  cases o with
  | cells c => obtain ⟨c', e, fz, h1, h2, h3⟩ := h; exact ⟨c', e, fz, h1, fun hx => h2 (hw hx), h3⟩
  | map es clock => exact h
  | loop L => exact h
  | junk => exact h
theorem hrel {W : World} {h : AH} {β : Bij} (B : Base Tryd.prog W h β) (hle : BLe β0 β) : HRel Tryd.prog h.size W.heap.size β h W :=
  ⟨B.dom, fun b r d o hb ho => orel_wr (fun hx => by have := (B.dom b r d hb).1; omega) (B.obj b r d o hb ho), fun b r d hl hb => by have := (B.dom b r d hb).1; omega,
    fun b r d _ hb => (B.dom b r d hb).2, fun b b' r d d' hl _ hb _ _ _ => by have := (B.dom b r d hb).1; omega,
    fun g hg => by rw [gSize] at hg
                   by_cases h0 : g = 0
                   · subst h0; exact ⟨6, hle 0 _ rfl⟩
                   · obtain rfl : g = 1 := by omega
                     exact ⟨2, hle 1 _ rfl⟩, Nat.le_refl _, Nat.le_refl _⟩
theorem law_calls {W : World} {f : Nat} {A : AFn} (hlow : lowFn Tryd.prog f = some A) {args : Array Value} {h : AH} {β : Bij} {vs : List Value} {ps : List PV} (B : Base Tryd.prog W h β) (o : Onto base β0 h β) (g : Got h β vs args.toList ps)
    (hP : VP EW f ps (.bool true)) : Calls Tryd.prog f args W fun e W' => e = .returned (.bool true) ∧ Below W.heap.size W W' := by
  have hb0 : h[0]? = some (.cells kindsV) := o.eq 0 (by decide)
  have hb1 : h[1]? = some (.cells [f130v, f131v]) := o.eq 1 (by decide)
  have h1 : 2 ≤ h.size := o.sz
  obtain ⟨v, h', hB, _, hv⟩ := hP h.size (fun b => b < h.size) h vs (Nat.le_refl _) (fun gl c hg => by
    unfold EW at hg
    simp only at hg
    split at hg
    · rename_i hg0; subst hg0; cases hg; exact ⟨hb0, by omega, by omega, by decide⟩
    · split at hg
      · rename_i hg0; subst hg0; cases hg; exact ⟨hb1, h1, h1, by decide⟩
      · cases hg) g.2
  have hv' : v = .bool true := by cases hv; rfl
  subst hv'
  refine (close (G := env0) (fun f A hf => DC.lowG f A hf) mixed hlow (β := β) (args' := args) (fun f args v h2 hp => hp.elim) (fun f args h v h1 hx => hx.elim) hB g.1 (hrel B o.le)).mono fun e W' he => ?_
  · obtain ⟨β1, v', rfl, hv, hb⟩ := he
    exact ⟨by rw [hv.bool_inv], hb⟩
theorem Got.agg {h : AH} {β : Bij} {vs : List Value} {cs : Array Value} {ps : List PV} (g : Got h β vs cs.toList ps) : Got h β [.agg vs.toArray] [.agg cs] [.agg ps] :=
  .one (.agg' (by simpa using g.1)) (.agg (by simpa using g.2.1) (fun i v v' a b => g.2.2 i v v' a (by simpa using b)))
theorem laidOut : laidOutB Tryd.prog = true := by kernel_rfl
end Go.Proofs.YtmlogniaahnamaaDoor.open_

