/- The value machine: what the simplifier uses. -/
import Derived.Test.YtmlogniaahnamaaDoorPvb
import Derived.Test.YtmlogniaahnamaaDoorSmc
import Derived.OpenShut
import Derived.ChangeArms
set_option linter.all false
namespace Go.RS
open Go
abbrev Spec := Nat → List PV → Option PV
/-- What is told of functions is so. -/
def GoodV (E : VEnv) (sp : Spec) : Prop := ∀ f args r, sp f args = some r → VP E f args r
def spc (sp : Spec) (M : VM) (f : PV) (args : List PV) : Option PV :=
  match f with
  | .func f [] [] => (sp f (PV.fzL M args)).bind fun r => if r.flat || PV.isFL args then some r else none
  | _ => none
theorem le_refl (v : PV) : v.le v := by cases v <;> simp [PV.le]
theorem argsLe_fz (M : VM) : ∀ args : List PV, argsLe M args (PV.fzL M args)
  | [] => trivial
  | a :: as => ⟨le_refl _, argsLe_fz M as⟩
theorem spc_vc {E : VEnv} {sp : Spec} (good : GoodV E sp) {M : VM} {f : PV} {args : List PV} {r : PV} {g : Bool} {K : PV → VM → Prop} (hs : spc sp M f args = some r) (hk : K r M) : VC E g f args M K := by
  unfold spc at hs
  split at hs
  · simp only [Option.bind_eq_some_iff] at hs
    obtain ⟨r', h1, h2⟩ := hs
    split at h2
    · rename_i hb
      cases h2
      exact .pure (good _ _ _ h1) (argsLe_fz M args) (by simpa using hb) hk
    · cases h2
  · cases hs

/-- What a list of operations asks, in order; 'S': slots whose new slices may be written. -/
def vq (E : VEnv) (sp : Spec) (d : Bool) (S : List Nat) (Q : VFr → VM → Prop) : List AOper → VFr → VM → Prop
  | [], fr, M => Q fr M
  | o :: os, fr, M =>
    vg (wantedV o.guard fr)
      (match o.op with
       | .call f args =>
         match spc sp M (f.evV E fr) (args.map (·.evV E fr)) with
         | some r => vq E sp d S Q os (putV fr o.dst r) M
         | none => VC E (d && !(o.seqd && o.late.isEmpty)) (f.evV E fr) (args.map (·.evV E fr)) M fun r M' => vq E sp d S Q os (putV fr o.dst r) M'
       | op => ((!d || op.still || freshV E fr op || (o.seqd && lateV E o fr M)) = true) ∧ okV (aopV E (match o.dst with | some i => S.contains i | none => false) op fr M) fun v M' => vq E sp d S Q os (putV fr o.dst v) M')
      (vq E sp d S Q os (putV fr o.dst (.tup [])) M)
theorem vq_vo {E : VEnv} {sp : Spec} (good : GoodV E sp) {d : Bool} {S : List Nat} {Q : VFr → VM → Prop} : ∀ {ops : List AOper} {fr : VFr} {M : VM}, vq E sp d S Q ops fr M → vo E d S Q ops fr M
  | [], fr, M, h => h
  | o :: os, fr, M, h => by
    unfold vq at h
    unfold vo
    cases hw : wantedV o.guard fr with
    | none => rw [hw] at h; exact h
    | some b =>
      rw [hw] at h
      cases b with
      | false => exact vq_vo good h
      | true =>
        rw [vg_true] at h ⊢
        split at h
        · rename_i f args ho
          split at h
          · rename_i r hr
            simp only [ho]
            exact spc_vc good hr (vq_vo good h)
          · simp only [ho]
            exact h.mono fun r m hx => vq_vo good hx
        · rename_i hno
          refine Eq.mpr ?_ (show ((!d || o.op.still || freshV E fr o.op || (o.seqd && lateV E o fr M)) = true) ∧ okV (aopV E (match o.dst with | some i => S.contains i | none => false) o.op fr M) fun v M' => vo E d S Q os (putV fr o.dst v) M' from ⟨h.1, ?_⟩)
          · split
            · rename_i f args ho; exact absurd ho (hno f args)
            · rfl
          · have h2 := h.2
            unfold okV at h2 ⊢
            split at h2
            · exact vq_vo good h2
            · exact h2

/-! ### Steps in first order: nothing is looked at before it is reached -/
section
variable (E : VEnv) (sp : Spec) (d : Bool) (S : List Nat) (Q : VFr → VM → Prop)
def vres (side : Bool) (x : Option (PV × VM)) (dst : Option Nat) (os : List AOper) (fr : VFr) : Prop := side = true ∧ okV x fun v M' => vq E sp d S Q os (putV fr dst v) M'
def vcall (x : Option PV) (g : Bool) (f : PV) (args : List PV) (M : VM) (dst : Option Nat) (os : List AOper) (fr : VFr) : Prop :=
  match x with
  | some r => vq E sp d S Q os (putV fr dst r) M
  | none => VC E g f args M fun r M' => vq E sp d S Q os (putV fr dst r) M'
/-- A call of which nothing is told. -/
def VCo (g : Bool) (f : PV) (args : List PV) (M : VM) (dst : Option Nat) (os : List AOper) (fr : VFr) : Prop := VC E g f args M fun r M' => vq E sp d S Q os (putV fr dst r) M'
def vact (op : AOp) (o : AOper) (os : List AOper) (fr : VFr) (M : VM) : Prop :=
  match op with
  | .call f args =>
    match spc sp M (f.evV E fr) (args.map (·.evV E fr)) with
    | some r => vq E sp d S Q os (putV fr o.dst r) M
    | none => VC E (d && !(o.seqd && o.late.isEmpty)) (f.evV E fr) (args.map (·.evV E fr)) M fun r M' => vq E sp d S Q os (putV fr o.dst r) M'
  | op => ((!d || op.still || freshV E fr op || (o.seqd && lateV E o fr M)) = true) ∧ okV (aopV E (match o.dst with | some i => S.contains i | none => false) op fr M) fun v M' => vq E sp d S Q os (putV fr o.dst v) M'
def vstep (w : Option Bool) (o : AOper) (os : List AOper) (fr : VFr) (M : VM) : Prop := vg w (vact E sp d S Q o.op o os fr M) (vq E sp d S Q os (putV fr o.dst (.tup [])) M)
end
def inS (S : List Nat) (d : Option Nat) : Bool := match d with | some i => S.contains i | none => false
section
variable {E : VEnv} {k : Nat} {fr : VFr} {M : VM} {sp : Spec} {d : Bool} {S : List Nat} {Q : VFr → VM → Prop} {o : AOper} {os : List AOper}
@[simp] theorem vq_nil : vq E sp d S Q [] fr M = Q fr M := rfl
@[simp] theorem vq_cons : vq E sp d S Q (o :: os) fr M = vstep E sp d S Q (wantedV o.guard fr) o os fr M := rfl
@[simp] theorem vstep_t : vstep E sp d S Q (some true) o os fr M = vact E sp d S Q o.op o os fr M := rfl
@[simp] theorem vstep_f : vstep E sp d S Q (some false) o os fr M = vq E sp d S Q os (putV fr o.dst (.tup [])) M := rfl
theorem vstep_split {b : Bool} (h1 : b = true → vstep E sp d S Q (some true) o os fr M) (h2 : b = false → vstep E sp d S Q (some false) o os fr M) : vstep E sp d S Q (some b) o os fr M := by
  cases b
  · exact h2 rfl
  · exact h1 rfl
@[simp] theorem vact_call (f : Opd) (args : List Opd) : vact E sp d S Q (.call f args) o os fr M = vcall E sp d S Q (spc sp M (f.evV E fr) (args.map (·.evV E fr))) (d && !(o.seqd && o.late.isEmpty)) (f.evV E fr) (args.map (·.evV E fr)) M o.dst os fr := rfl
@[simp] theorem vcall_some (r : PV) (g : Bool) (f : PV) (args : List PV) (dst : Option Nat) : vcall E sp d S Q (some r) g f args M dst os fr = vq E sp d S Q os (putV fr dst r) M := rfl
@[simp] theorem vcall_none (g : Bool) (f : PV) (args : List PV) (dst : Option Nat) : vcall E sp d S Q none g f args M dst os fr = VCo E sp d S Q g f args M dst os fr := rfl
@[simp] theorem vact_mov (x : Opd) : vact E sp false S Q (.mov x) o os fr M = vres E sp false S Q true (aopV E (inS S o.dst) (.mov x) fr M) o.dst os fr := by simp [vact, vres, inS]
@[simp] theorem vactD_mov (x : Opd) : vact E sp true S Q (.mov x) o os fr M = vres E sp true S Q true (aopV E (inS S o.dst) (.mov x) fr M) o.dst os fr := by simp [vact, vres, inS, AOp.still, freshV]
@[simp] theorem vact_pick (c a b : Opd) : vact E sp false S Q (.pick c a b) o os fr M = vres E sp false S Q true (aopV E (inS S o.dst) (.pick c a b) fr M) o.dst os fr := by simp [vact, vres, inS]
@[simp] theorem vactD_pick (c a b : Opd) : vact E sp true S Q (.pick c a b) o os fr M = vres E sp true S Q true (aopV E (inS S o.dst) (.pick c a b) fr M) o.dst os fr := by simp [vact, vres, inS, AOp.still, freshV]
@[simp] theorem vact_alloc (zero : List Value) : vact E sp false S Q (.alloc zero) o os fr M = vres E sp false S Q true (aopV E (inS S o.dst) (.alloc zero) fr M) o.dst os fr := by simp [vact, vres, inS]
@[simp] theorem vactD_alloc (zero : List Value) : vact E sp true S Q (.alloc zero) o os fr M = vres E sp true S Q true (aopV E (inS S o.dst) (.alloc zero) fr M) o.dst os fr := by simp [vact, vres, inS, AOp.still, freshV]
@[simp] theorem vact_box (x : Opd) : vact E sp false S Q (.box x) o os fr M = vres E sp false S Q true (aopV E (inS S o.dst) (.box x) fr M) o.dst os fr := by simp [vact, vres, inS]
@[simp] theorem vactD_box (x : Opd) : vact E sp true S Q (.box x) o os fr M = vres E sp true S Q true (aopV E (inS S o.dst) (.box x) fr M) o.dst os fr := by simp [vact, vres, inS, AOp.still, freshV]
@[simp] theorem vact_build (zero : List Value) (parts : List (Nat × Nat × Opd)) : vact E sp false S Q (.build zero parts) o os fr M = vres E sp false S Q true (aopV E (inS S o.dst) (.build zero parts) fr M) o.dst os fr := by simp [vact, vres, inS]
@[simp] theorem vactD_build (zero : List Value) (parts : List (Nat × Nat × Opd)) : vact E sp true S Q (.build zero parts) o os fr M = vres E sp true S Q true (aopV E (inS S o.dst) (.build zero parts) fr M) o.dst os fr := by simp [vact, vres, inS, AOp.still, freshV]
@[simp] theorem vact_buildSlice (len : Nat) (zero : List Value) (parts : List (Nat × Nat × Opd)) : vact E sp false S Q (.buildSlice len zero parts) o os fr M = vres E sp false S Q true (aopV E (inS S o.dst) (.buildSlice len zero parts) fr M) o.dst os fr := by simp [vact, vres, inS]
@[simp] theorem vactD_buildSlice (len : Nat) (zero : List Value) (parts : List (Nat × Nat × Opd)) : vact E sp true S Q (.buildSlice len zero parts) o os fr M = vres E sp true S Q true (aopV E (inS S o.dst) (.buildSlice len zero parts) fr M) o.dst os fr := by simp [vact, vres, inS, AOp.still, freshV]
@[simp] theorem vact_load (agg : Option Nat) (addr : Opd) : vact E sp false S Q (.load agg addr) o os fr M = vres E sp false S Q true (aopV E (inS S o.dst) (.load agg addr) fr M) o.dst os fr := by simp [vact, vres, inS]
@[simp] theorem vactD_load (agg : Option Nat) (addr : Opd) : vact E sp true S Q (.load agg addr) o os fr M = vres E sp true S Q true (aopV E (inS S o.dst) (.load agg addr) fr M) o.dst os fr := by simp [vact, vres, inS, AOp.still, freshV]
@[simp] theorem vact_store (n' : Nat) (addr x : Opd) : vact E sp false S Q (.store n' addr x) o os fr M = vres E sp false S Q true (aopV E (inS S o.dst) (.store n' addr x) fr M) o.dst os fr := by simp [vact, vres, inS]
@[simp] theorem vactD_store (n' : Nat) (addr x : Opd) : vact E sp true S Q (.store n' addr x) o os fr M = vres E sp true S Q (o.seqd && lateV E o fr M) (aopV E (inS S o.dst) (.store n' addr x) fr M) o.dst os fr := by simp [vact, vres, inS, AOp.still, freshV]
@[simp] theorem vact_nilCheck (x : Opd) : vact E sp false S Q (.nilCheck x) o os fr M = vres E sp false S Q true (aopV E (inS S o.dst) (.nilCheck x) fr M) o.dst os fr := by simp [vact, vres, inS]
@[simp] theorem vactD_nilCheck (x : Opd) : vact E sp true S Q (.nilCheck x) o os fr M = vres E sp true S Q true (aopV E (inS S o.dst) (.nilCheck x) fr M) o.dst os fr := by simp [vact, vres, inS, AOp.still, freshV]
@[simp] theorem vact_bin (op : BinOp) (x y : Opd) : vact E sp false S Q (.bin op x y) o os fr M = vres E sp false S Q true (aopV E (inS S o.dst) (.bin op x y) fr M) o.dst os fr := by simp [vact, vres, inS]
@[simp] theorem vactD_bin (op : BinOp) (x y : Opd) : vact E sp true S Q (.bin op x y) o os fr M = vres E sp true S Q true (aopV E (inS S o.dst) (.bin op x y) fr M) o.dst os fr := by simp [vact, vres, inS, AOp.still, freshV]
@[simp] theorem vact_eqBool (neg : Bool) (x y : Opd) : vact E sp false S Q (.eqBool neg x y) o os fr M = vres E sp false S Q true (aopV E (inS S o.dst) (.eqBool neg x y) fr M) o.dst os fr := by simp [vact, vres, inS]
@[simp] theorem vactD_eqBool (neg : Bool) (x y : Opd) : vact E sp true S Q (.eqBool neg x y) o os fr M = vres E sp true S Q true (aopV E (inS S o.dst) (.eqBool neg x y) fr M) o.dst os fr := by simp [vact, vres, inS, AOp.still, freshV]
@[simp] theorem vact_eqAgg (neg : Bool) (ks : List AK) (x y : Opd) : vact E sp false S Q (.eqAgg neg ks x y) o os fr M = vres E sp false S Q true (aopV E (inS S o.dst) (.eqAgg neg ks x y) fr M) o.dst os fr := by simp [vact, vres, inS]
@[simp] theorem vactD_eqAgg (neg : Bool) (ks : List AK) (x y : Opd) : vact E sp true S Q (.eqAgg neg ks x y) o os fr M = vres E sp true S Q true (aopV E (inS S o.dst) (.eqAgg neg ks x y) fr M) o.dst os fr := by simp [vact, vres, inS, AOp.still, freshV]
@[simp] theorem vact_eqNil (k : EqK) (neg : Bool) (x y : Opd) : vact E sp false S Q (.eqNil k neg x y) o os fr M = vres E sp false S Q true (aopV E (inS S o.dst) (.eqNil k neg x y) fr M) o.dst os fr := by simp [vact, vres, inS]
@[simp] theorem vactD_eqNil (k : EqK) (neg : Bool) (x y : Opd) : vact E sp true S Q (.eqNil k neg x y) o os fr M = vres E sp true S Q true (aopV E (inS S o.dst) (.eqNil k neg x y) fr M) o.dst os fr := by simp [vact, vres, inS, AOp.still, freshV]
@[simp] theorem vact_un (op : UnOp) (x : Opd) : vact E sp false S Q (.un op x) o os fr M = vres E sp false S Q true (aopV E (inS S o.dst) (.un op x) fr M) o.dst os fr := by simp [vact, vres, inS]
@[simp] theorem vactD_un (op : UnOp) (x : Opd) : vact E sp true S Q (.un op x) o os fr M = vres E sp true S Q true (aopV E (inS S o.dst) (.un op x) fr M) o.dst os fr := by simp [vact, vres, inS, AOp.still, freshV]
@[simp] theorem vact_conv (k : IntKind) (x : Opd) : vact E sp false S Q (.conv k x) o os fr M = vres E sp false S Q true (aopV E (inS S o.dst) (.conv k x) fr M) o.dst os fr := by simp [vact, vres, inS]
@[simp] theorem vactD_conv (k : IntKind) (x : Opd) : vact E sp true S Q (.conv k x) o os fr M = vres E sp true S Q true (aopV E (inS S o.dst) (.conv k x) fr M) o.dst os fr := by simp [vact, vres, inS, AOp.still, freshV]
@[simp] theorem vact_makeFunc (fn : Nat) (first captured : List Opd) : vact E sp false S Q (.makeFunc fn first captured) o os fr M = vres E sp false S Q true (aopV E (inS S o.dst) (.makeFunc fn first captured) fr M) o.dst os fr := by simp [vact, vres, inS]
@[simp] theorem vactD_makeFunc (fn : Nat) (first captured : List Opd) : vact E sp true S Q (.makeFunc fn first captured) o os fr M = vres E sp true S Q true (aopV E (inS S o.dst) (.makeFunc fn first captured) fr M) o.dst os fr := by simp [vact, vres, inS, AOp.still, freshV]
@[simp] theorem vact_makeMap  : vact E sp false S Q (.makeMap) o os fr M = vres E sp false S Q true (aopV E (inS S o.dst) (.makeMap) fr M) o.dst os fr := by simp [vact, vres, inS]
@[simp] theorem vactD_makeMap  : vact E sp true S Q (.makeMap) o os fr M = vres E sp true S Q true (aopV E (inS S o.dst) (.makeMap) fr M) o.dst os fr := by simp [vact, vres, inS, AOp.still, freshV]
@[simp] theorem vact_makeSlice (zero : List Value) (bytes : Nat) (len cap : Opd) : vact E sp false S Q (.makeSlice zero bytes len cap) o os fr M = vres E sp false S Q true (aopV E (inS S o.dst) (.makeSlice zero bytes len cap) fr M) o.dst os fr := by simp [vact, vres, inS]
@[simp] theorem vactD_makeSlice (zero : List Value) (bytes : Nat) (len cap : Opd) : vact E sp true S Q (.makeSlice zero bytes len cap) o os fr M = vres E sp true S Q true (aopV E (inS S o.dst) (.makeSlice zero bytes len cap) fr M) o.dst os fr := by simp [vact, vres, inS, AOp.still, freshV]
@[simp] theorem vact_sliceS (esize : Nat) (x : Opd) (lo hi mx : Option Opd) : vact E sp false S Q (.sliceS esize x lo hi mx) o os fr M = vres E sp false S Q true (aopV E (inS S o.dst) (.sliceS esize x lo hi mx) fr M) o.dst os fr := by simp [vact, vres, inS]
@[simp] theorem vactD_sliceS (esize : Nat) (x : Opd) (lo hi mx : Option Opd) : vact E sp true S Q (.sliceS esize x lo hi mx) o os fr M = vres E sp true S Q true (aopV E (inS S o.dst) (.sliceS esize x lo hi mx) fr M) o.dst os fr := by simp [vact, vres, inS, AOp.still, freshV]
@[simp] theorem vact_sliceA (n' esize : Nat) (x : Opd) (lo hi mx : Option Opd) : vact E sp false S Q (.sliceA n' esize x lo hi mx) o os fr M = vres E sp false S Q true (aopV E (inS S o.dst) (.sliceA n' esize x lo hi mx) fr M) o.dst os fr := by simp [vact, vres, inS]
@[simp] theorem vactD_sliceA (n' esize : Nat) (x : Opd) (lo hi mx : Option Opd) : vact E sp true S Q (.sliceA n' esize x lo hi mx) o os fr M = vres E sp true S Q true (aopV E (inS S o.dst) (.sliceA n' esize x lo hi mx) fr M) o.dst os fr := by simp [vact, vres, inS, AOp.still, freshV]
@[simp] theorem vact_fieldAddr (off : Nat) (x : Opd) : vact E sp false S Q (.fieldAddr off x) o os fr M = vres E sp false S Q true (aopV E (inS S o.dst) (.fieldAddr off x) fr M) o.dst os fr := by simp [vact, vres, inS]
@[simp] theorem vactD_fieldAddr (off : Nat) (x : Opd) : vact E sp true S Q (.fieldAddr off x) o os fr M = vres E sp true S Q true (aopV E (inS S o.dst) (.fieldAddr off x) fr M) o.dst os fr := by simp [vact, vres, inS, AOp.still, freshV]
@[simp] theorem vact_part (off : Nat) (agg : Option Nat) (x : Opd) : vact E sp false S Q (.part off agg x) o os fr M = vres E sp false S Q true (aopV E (inS S o.dst) (.part off agg x) fr M) o.dst os fr := by simp [vact, vres, inS]
@[simp] theorem vactD_part (off : Nat) (agg : Option Nat) (x : Opd) : vact E sp true S Q (.part off agg x) o os fr M = vres E sp true S Q true (aopV E (inS S o.dst) (.part off agg x) fr M) o.dst os fr := by simp [vact, vres, inS, AOp.still, freshV]
@[simp] theorem vact_indexAddrA (n' esize : Nat) (x i : Opd) : vact E sp false S Q (.indexAddrA n' esize x i) o os fr M = vres E sp false S Q true (aopV E (inS S o.dst) (.indexAddrA n' esize x i) fr M) o.dst os fr := by simp [vact, vres, inS]
@[simp] theorem vactD_indexAddrA (n' esize : Nat) (x i : Opd) : vact E sp true S Q (.indexAddrA n' esize x i) o os fr M = vres E sp true S Q true (aopV E (inS S o.dst) (.indexAddrA n' esize x i) fr M) o.dst os fr := by simp [vact, vres, inS, AOp.still, freshV]
@[simp] theorem vact_indexAddrS (esize : Nat) (x i : Opd) : vact E sp false S Q (.indexAddrS esize x i) o os fr M = vres E sp false S Q true (aopV E (inS S o.dst) (.indexAddrS esize x i) fr M) o.dst os fr := by simp [vact, vres, inS]
@[simp] theorem vactD_indexAddrS (esize : Nat) (x i : Opd) : vact E sp true S Q (.indexAddrS esize x i) o os fr M = vres E sp true S Q true (aopV E (inS S o.dst) (.indexAddrS esize x i) fr M) o.dst os fr := by simp [vact, vres, inS, AOp.still, freshV]
@[simp] theorem vact_indexA (n' esize : Nat) (agg : Option Nat) (x i : Opd) : vact E sp false S Q (.indexA n' esize agg x i) o os fr M = vres E sp false S Q true (aopV E (inS S o.dst) (.indexA n' esize agg x i) fr M) o.dst os fr := by simp [vact, vres, inS]
@[simp] theorem vactD_indexA (n' esize : Nat) (agg : Option Nat) (x i : Opd) : vact E sp true S Q (.indexA n' esize agg x i) o os fr M = vres E sp true S Q true (aopV E (inS S o.dst) (.indexA n' esize agg x i) fr M) o.dst os fr := by simp [vact, vres, inS, AOp.still, freshV]
@[simp] theorem vact_indexStr (x i : Opd) : vact E sp false S Q (.indexStr x i) o os fr M = vres E sp false S Q true (aopV E (inS S o.dst) (.indexStr x i) fr M) o.dst os fr := by simp [vact, vres, inS]
@[simp] theorem vactD_indexStr (x i : Opd) : vact E sp true S Q (.indexStr x i) o os fr M = vres E sp true S Q true (aopV E (inS S o.dst) (.indexStr x i) fr M) o.dst os fr := by simp [vact, vres, inS, AOp.still, freshV]
@[simp] theorem vact_lookup (flat : KS) (zero : Value) (ok : Bool) (m k : Opd) : vact E sp false S Q (.lookup flat zero ok m k) o os fr M = vres E sp false S Q true (aopV E (inS S o.dst) (.lookup flat zero ok m k) fr M) o.dst os fr := by simp [vact, vres, inS]
@[simp] theorem vactD_lookup (flat : KS) (zero : Value) (ok : Bool) (m k : Opd) : vact E sp true S Q (.lookup flat zero ok m k) o os fr M = vres E sp true S Q true (aopV E (inS S o.dst) (.lookup flat zero ok m k) fr M) o.dst os fr := by simp [vact, vres, inS, AOp.still, freshV]
@[simp] theorem vact_mapUpdate (flat : KS) (m k x : Opd) : vact E sp false S Q (.mapUpdate flat m k x) o os fr M = vres E sp false S Q true (aopV E (inS S o.dst) (.mapUpdate flat m k x) fr M) o.dst os fr := by simp [vact, vres, inS]
@[simp] theorem vactD_mapUpdate (flat : KS) (m k x : Opd) : vact E sp true S Q (.mapUpdate flat m k x) o os fr M = vres E sp true S Q (o.seqd && lateV E o fr M) (aopV E (inS S o.dst) (.mapUpdate flat m k x) fr M) o.dst os fr := by simp [vact, vres, inS, AOp.still, freshV]
@[simp] theorem vact_mapEntry (flat : KS) (zero : Value) (m k : Opd) : vact E sp false S Q (.mapEntry flat zero m k) o os fr M = vres E sp false S Q true (aopV E (inS S o.dst) (.mapEntry flat zero m k) fr M) o.dst os fr := by simp [vact, vres, inS]
@[simp] theorem vactD_mapEntry (flat : KS) (zero : Value) (m k : Opd) : vact E sp true S Q (.mapEntry flat zero m k) o os fr M = vres E sp true S Q (o.seqd && lateV E o fr M) (aopV E (inS S o.dst) (.mapEntry flat zero m k) fr M) o.dst os fr := by simp [vact, vres, inS, AOp.still, freshV]
@[simp] theorem vact_entryStore (m s x : Opd) : vact E sp false S Q (.entryStore m s x) o os fr M = vres E sp false S Q true (aopV E (inS S o.dst) (.entryStore m s x) fr M) o.dst os fr := by simp [vact, vres, inS]
@[simp] theorem vactD_entryStore (m s x : Opd) : vact E sp true S Q (.entryStore m s x) o os fr M = vres E sp true S Q (o.seqd && lateV E o fr M) (aopV E (inS S o.dst) (.entryStore m s x) fr M) o.dst os fr := by simp [vact, vres, inS, AOp.still, freshV]
@[simp] theorem vact_extract (x : Opd) (i : Nat) : vact E sp false S Q (.extract x i) o os fr M = vres E sp false S Q true (aopV E (inS S o.dst) (.extract x i) fr M) o.dst os fr := by simp [vact, vres, inS]
@[simp] theorem vactD_extract (x : Opd) (i : Nat) : vact E sp true S Q (.extract x i) o os fr M = vres E sp true S Q true (aopV E (inS S o.dst) (.extract x i) fr M) o.dst os fr := by simp [vact, vres, inS, AOp.still, freshV]
@[simp] theorem vact_len (str : Bool) (x : Opd) : vact E sp false S Q (.len str x) o os fr M = vres E sp false S Q true (aopV E (inS S o.dst) (.len str x) fr M) o.dst os fr := by simp [vact, vres, inS]
@[simp] theorem vactD_len (str : Bool) (x : Opd) : vact E sp true S Q (.len str x) o os fr M = vres E sp true S Q true (aopV E (inS S o.dst) (.len str x) fr M) o.dst os fr := by simp [vact, vres, inS, AOp.still, freshV]
@[simp] theorem vact_lenC (n' : Nat) : vact E sp false S Q (.lenC n') o os fr M = vres E sp false S Q true (aopV E (inS S o.dst) (.lenC n') fr M) o.dst os fr := by simp [vact, vres, inS]
@[simp] theorem vactD_lenC (n' : Nat) : vact E sp true S Q (.lenC n') o os fr M = vres E sp true S Q true (aopV E (inS S o.dst) (.lenC n') fr M) o.dst os fr := by simp [vact, vres, inS, AOp.still, freshV]
@[simp] theorem vact_append (esize bytes : Nat) (s x : Opd) : vact E sp false S Q (.append esize bytes s x) o os fr M = vres E sp false S Q true (aopV E (inS S o.dst) (.append esize bytes s x) fr M) o.dst os fr := by simp [vact, vres, inS]
@[simp] theorem vactD_append (esize bytes : Nat) (s x : Opd) : vact E sp true S Q (.append esize bytes s x) o os fr M = vres E sp true S Q (freshB (s.evV E fr) || (o.seqd && lateV E o fr M)) (aopV E (inS S o.dst) (.append esize bytes s x) fr M) o.dst os fr := by simp [vact, vres, inS, AOp.still, freshV]
@[simp] theorem vact_minmax (mx : Bool) (x : Opd) (more : List Opd) : vact E sp false S Q (.minmax mx x more) o os fr M = vres E sp false S Q true (aopV E (inS S o.dst) (.minmax mx x more) fr M) o.dst os fr := by simp [vact, vres, inS]
@[simp] theorem vactD_minmax (mx : Bool) (x : Opd) (more : List Opd) : vact E sp true S Q (.minmax mx x more) o os fr M = vres E sp true S Q true (aopV E (inS S o.dst) (.minmax mx x more) fr M) o.dst os fr := by simp [vact, vres, inS, AOp.still, freshV]
@[simp] theorem vres_some (v : PV) (M' : VM) (dst : Option Nat) : vres E sp d S Q true (some (v, M')) dst os fr = vq E sp d S Q os (putV fr dst v) M' := by simp [vres, okV]
end

/-! ### Code -/
section
variable (E : VEnv) (k : Nat) (sp : Spec) (S : List Nat)
def ACode.loops : ACode → Bool
  | .loop _ | .rangeFunc .. => true
  | .seq a b | .cond _ a b => a.loops || b.loops
  | .block _ c | .scope c => c.loops
  | _ => false
def vcb (v : PV) (a b : Prop) : Prop := match v with | .bool t => (t = true → a) ∧ (t = false → b) | _ => False
def vc : ACode → (AExit → VFr → VM → Prop) → VFr → VM → Prop
  | .skip, Q, fr, M => Q .normal fr M
  | .ret, Q, fr, M => Q .ret fr M
  | .exit id, Q, fr, M => Q (.exit id) fr M
  | .seq a b, Q, fr, M => vc a (fun e f m => match e with | .normal => if a.loops then VW E k b f m Q else vc b Q f m | e => Q e f m) fr M
  | .cond c a b, Q, fr, M => vcb (c.evV E fr) (vc a Q fr M) (vc b Q fr M)
  | .block id c, Q, fr, M => vc c (fun e f m => Q (e.leave id) f m) fr M
  | .scope c, Q, fr, M => vc c Q fr M
  | .region d ops, Q, fr, M => vq E sp d S (Q .normal) ops fr M
  | .loop c, Q, fr, M => VW E k (.loop c) fr M Q
  | .rangeFunc f ps a b, Q, fr, M => VW E k (.rangeFunc f ps a b) fr M Q
  | .bad, _, _, _ => False
def vthen (l : Bool) (b : ACode) (Q : AExit → VFr → VM → Prop) (e : AExit) (f : VFr) (m : VM) : Prop := match e with | .normal => if l then VW E k b f m Q else vc E k sp S b Q f m | e => Q e f m
def vblk (id : Nat) (Q : AExit → VFr → VM → Prop) (e : AExit) (f : VFr) (m : VM) : Prop := Q (e.leave id) f m
def vcond (v : PV) (a b : ACode) (Q : AExit → VFr → VM → Prop) (fr : VFr) (M : VM) : Prop := vcb v (vc E k sp S a Q fr M) (vc E k sp S b Q fr M)
end
section
variable {E : VEnv} {k : Nat} {sp : Spec} {S : List Nat} {fr : VFr} {M : VM} {Q : AExit → VFr → VM → Prop}
theorem vc_VW (good : GoodV E sp) : ∀ {c : ACode} {Q : AExit → VFr → VM → Prop} {fr : VFr} {M : VM}, vc E k sp S c Q fr M → VW E k c fr M Q
  | .skip, Q, fr, M, h => .skip h
  | .ret, Q, fr, M, h => .ret h
  | .exit id, Q, fr, M, h => .exit h
  | .seq a b, Q, fr, M, h => .seq ((vc_VW (c := a) good (show vc E k sp S a (vthen E k sp S a.loops b Q) fr M from h)).mono fun e f m hx => by
      cases e with
      | normal =>
        have hx : (if a.loops then VW E k b f m Q else vc E k sp S b Q f m) := hx
        by_cases hl : a.loops = true
        · rw [if_pos hl] at hx; exact hx
        · rw [if_neg hl] at hx; exact vc_VW (c := b) good hx
      | exit id => exact hx
      | ret => exact hx)
  | .cond c a b, Q, fr, M, h => by
    unfold vc vcb at h
    split at h
    · rename_i t ht
      exact .cond ht (fun hx => vc_VW good (h.1 hx)) (fun hx => vc_VW good (h.2 hx))
    · exact h.elim
  | .block id c, Q, fr, M, h => .block (vc_VW good h)
  | .scope c, Q, fr, M, h => .scope (vc_VW good h)
  | .region d ops, Q, fr, M, h => .ops S (vq_vo good h)
  | .loop c, Q, fr, M, h => h
  | .rangeFunc f ps a b, Q, fr, M, h => h
  | .bad, _, _, _, h => h.elim
@[simp] theorem vc_skip : vc E k sp S .skip Q fr M = Q .normal fr M := rfl
@[simp] theorem vc_ret : vc E k sp S .ret Q fr M = Q .ret fr M := rfl
@[simp] theorem vc_exit (id : Nat) : vc E k sp S (.exit id) Q fr M = Q (.exit id) fr M := rfl
@[simp] theorem vc_seq (a b : ACode) : vc E k sp S (.seq a b) Q fr M = vc E k sp S a (vthen E k sp S a.loops b Q) fr M := rfl
@[simp] theorem vc_cond (c : Opd) (a b : ACode) : vc E k sp S (.cond c a b) Q fr M = vcond E k sp S (c.evV E fr) a b Q fr M := rfl
@[simp] theorem vc_block (id : Nat) (c : ACode) : vc E k sp S (.block id c) Q fr M = vc E k sp S c (vblk id Q) fr M := rfl
@[simp] theorem vc_scope (c : ACode) : vc E k sp S (.scope c) Q fr M = vc E k sp S c Q fr M := rfl
@[simp] theorem vc_region (d : Bool) (ops : List AOper) : vc E k sp S (.region d ops) Q fr M = vq E sp d S (Q .normal) ops fr M := rfl
@[simp] theorem vc_loop (c : ACode) : vc E k sp S (.loop c) Q fr M = VW E k (.loop c) fr M Q := rfl
@[simp] theorem vc_range (f : Opd) (ps : List Nat) (a b : ACode) : vc E k sp S (.rangeFunc f ps a b) Q fr M = VW E k (.rangeFunc f ps a b) fr M Q := rfl
@[simp] theorem vthen_normal (b : ACode) : vthen E k sp S false b Q .normal fr M = vc E k sp S b Q fr M := rfl
@[simp] theorem vthen_loops (b : ACode) : vthen E k sp S true b Q .normal fr M = VW E k b fr M Q := rfl
@[simp] theorem vthen_ret (l : Bool) (b : ACode) : vthen E k sp S l b Q .ret fr M = Q .ret fr M := rfl
@[simp] theorem vthen_exit (l : Bool) (b : ACode) (id : Nat) : vthen E k sp S l b Q (.exit id) fr M = Q (.exit id) fr M := rfl
@[simp] theorem vblk_normal (id : Nat) : vblk id Q .normal fr M = Q .normal fr M := rfl
@[simp] theorem vblk_ret (id : Nat) : vblk id Q .ret fr M = Q .ret fr M := rfl
@[simp] theorem vblk_exit (id i : Nat) : vblk id Q (.exit i) fr M = Q (if i = id then .normal else .exit i) fr M := rfl
@[simp] theorem vcond_t (a b : ACode) : vcond E k sp S (.bool true) a b Q fr M = vc E k sp S a Q fr M := by simp [vcond, vcb]
@[simp] theorem vcond_f (a b : ACode) : vcond E k sp S (.bool false) a b Q fr M = vc E k sp S b Q fr M := by simp [vcond, vcb]
theorem vcond_split {t : Bool} {a b : ACode} (h1 : t = true → vc E k sp S a Q fr M) (h2 : t = false → vc E k sp S b Q fr M) : vcond E k sp S (.bool t) a b Q fr M := ⟨h1, h2⟩
/-- A function's code is run. -/
theorem VP.run (good : GoodV E sp) (S : List Nat) {f : Nat} {A : AFn} {args : List PV} {r : PV} (hG : E.env.fn f = some A) (hn : args.length ≤ A.ntmps)
    (hw : vc E 0 sp S A.body (fun e fr M => (e = .normal ∨ e = .ret) ∧ ∃ r', resultsV A.results fr M = some r' ∧ (r'.fz M).le r) (argsV args) []) : VP E f args r := .func hG hn (vc_VW good hw)
theorem VW.run (good : GoodV E sp) (S : List Nat) {c : ACode} (hw : vc E k sp S c Q fr M) : VW E k c fr M Q := vc_VW good hw
@[simp] theorem updV_apply (i j : Nat) (v : PV) : updV fr i v j = if j = i then v else fr j := rfl
@[simp] theorem putV_some (i : Nat) (v : PV) : putV fr (some i) v = updV fr i v := rfl
@[simp] theorem putV_none (v : PV) : putV fr none v = fr := rfl
@[simp] theorem evV_t (i : Nat) : (Opd.t i).evV E fr = fr i := rfl
@[simp] theorem evV_int (kk : IntKind) (n : Int) : (Opd.c (.int kk n)).evV E fr = .int kk n := rfl
@[simp] theorem evV_bool (b : Bool) : (Opd.c (.bool b)).evV E fr = .bool b := rfl
@[simp] theorem evV_str (b : ByteArray) : (Opd.c (.string b)).evV E fr = .str b := rfl
@[simp] theorem evV_nilS : (Opd.c (.slice none 0 0)).evV E fr = .nilS := rfl
@[simp] theorem evV_nilP : (Opd.c (.pointer none)).evV E fr = .nilP := rfl
@[simp] theorem evV_nilM : (Opd.c (.map none)).evV E fr = .nilM := rfl
@[simp] theorem evV_nilF : (Opd.c .nilFunc).evV E fr = .nilF := rfl
@[simp] theorem evV_func (f : Nat) : (Opd.c (.func (.func f) #[] #[])).evV E fr = .func f [] [] := rfl
@[simp] theorem evV_agg (cs : Array Value) : (Opd.c (.agg cs)).evV E fr = .agg (cs.toList.map PV.ofS) := rfl
@[simp] theorem ofS_int (kk : IntKind) (n : Int) : PV.ofS (.int kk n) = .int kk n := rfl
@[simp] theorem ofS_bool (b : Bool) : PV.ofS (.bool b) = .bool b := rfl
@[simp] theorem ofS_str (b : ByteArray) : PV.ofS (.string b) = .str b := rfl
@[simp] theorem ofS_nilS : PV.ofS (.slice none 0 0) = .nilS := rfl
@[simp] theorem ofS_nilP : PV.ofS (.pointer none) = .nilP := rfl
@[simp] theorem ofS_nilM : PV.ofS (.map none) = .nilM := rfl
@[simp] theorem ofS_nilF : PV.ofS .nilFunc = .nilF := rfl
@[simp] theorem argsV_apply (l : List PV) (i : Nat) : argsV l i = l.getD i .undef := rfl
@[simp] theorem mkF_cons (i : Nat) (v : PV) (l : List (Nat × PV)) : mkF ((i, v) :: l) = updV (mkF l) i v := rfl
@[simp] theorem mkF_nil (i : Nat) : mkF [] i = .undef := rfl
@[simp] theorem spc_func (f : Nat) (args : List PV) : spc sp M (.func f [] []) args = (sp f (PV.fzL M args)).bind fun r => if r.flat || PV.isFL args then some r else none := rfl
attribute [simp] PV.leL ACode.loops PV.bnd PV.bndL inS lateV liveLen openV lookAtomV atomPV wantedV aopV binV unV loadV vcells partV storeV vput PV.cellsOf PV.scal fillV elemsV okE resultsV resultV PV.fz PV.fzL PV.le PV.isF PV.isFL PV.und PV.undL VObj.und PV.flat PV.flat1 keyEqV atomsEqV atomEqV argsLe isNilV eqNilV minmaxV freshB
end

@[simp] theorem binInt_add (kk : IntKind) (a b : Int) : binInt .add kk a b = some (.int kk (kk.wrap (a + b))) := rfl
@[simp] theorem binInt_sub (kk : IntKind) (a b : Int) : binInt .sub kk a b = some (.int kk (kk.wrap (a - b))) := rfl
@[simp] theorem binInt_mul (kk : IntKind) (a b : Int) : binInt .mul kk a b = some (.int kk (kk.wrap (a * b))) := rfl
@[simp] theorem binInt_quo (kk : IntKind) (a b : Int) : binInt .quo kk a b = if b = 0 then none else some (.int kk (kk.wrap (a.tdiv b))) := rfl
@[simp] theorem binInt_rem (kk : IntKind) (a b : Int) : binInt .rem kk a b = if b = 0 then none else some (.int kk (a.tmod b)) := rfl
@[simp] theorem binInt_shl (kk : IntKind) (a b : Int) : binInt .shl kk a b = if b < 0 then none else some (.int kk (kk.wrap (a * 2 ^ min b.toNat kk.bits))) := rfl
@[simp] theorem binInt_shr (kk : IntKind) (a b : Int) : binInt .shr kk a b = if b < 0 then none else some (.int kk (a.fdiv (2 ^ min b.toNat kk.bits))) := rfl
@[simp] theorem binInt_and (kk : IntKind) (a b : Int) : binInt .and kk a b = some (.int kk (kk.wrap (BitVec.ofInt kk.bits a &&& BitVec.ofInt kk.bits b).toNat)) := rfl
@[simp] theorem binInt_or (kk : IntKind) (a b : Int) : binInt .or kk a b = some (.int kk (kk.wrap (BitVec.ofInt kk.bits a ||| BitVec.ofInt kk.bits b).toNat)) := rfl
@[simp] theorem binInt_andNot (kk : IntKind) (a b : Int) : binInt .andNot kk a b = some (.int kk (kk.wrap (BitVec.ofInt kk.bits a &&& ~~~BitVec.ofInt kk.bits b).toNat)) := rfl
@[simp] theorem binInt_eql (kk : IntKind) (a b : Int) : binInt .eql kk a b = some (.bool (decide (a = b))) := by
  show some (Value.bool (a == b)) = _
  congr 2
@[simp] theorem binInt_neq (kk : IntKind) (a b : Int) : binInt .neq kk a b = some (.bool (!decide (a = b))) := by
  show some (Value.bool (a != b)) = _
  congr 2
@[simp] theorem binInt_lss (kk : IntKind) (a b : Int) : binInt .lss kk a b = some (.bool (decide (a < b))) := rfl
@[simp] theorem binInt_leq (kk : IntKind) (a b : Int) : binInt .leq kk a b = some (.bool (decide (a ≤ b))) := rfl
@[simp] theorem binInt_gtr (kk : IntKind) (a b : Int) : binInt .gtr kk a b = some (.bool (decide (b < a))) := rfl
@[simp] theorem binInt_geq (kk : IntKind) (a b : Int) : binInt .geq kk a b = some (.bool (decide (b ≤ a))) := rfl
@[simp] theorem cast_eq (m n : Nat) : ((m : Int) = (n : Int)) = (m = n) := by apply propext; omega
@[simp] theorem cast_lt (m n : Nat) : ((m : Int) < (n : Int)) = (m < n) := by apply propext; omega
@[simp] theorem cast_le (m n : Nat) : ((m : Int) ≤ (n : Int)) = (m ≤ n) := by apply propext; omega
theorem wrap64 {n : Int} (h1 : -9223372036854775808 ≤ n) (h2 : n < 9223372036854775808) : IntKind.i64.wrap n = n := by
  have e : IntKind.i64.wrap n = if n % 18446744073709551616 ≥ 9223372036854775808 then n % 18446744073709551616 - 18446744073709551616 else n % 18446744073709551616 := by
    simp [IntKind.wrap, IntKind.bits, IntKind.signed]
  rw [e]
  split <;> omega
/-! ### Kinds of data -/
class Enc (α : Type) where
  enc : α → PV
  dec : PV → Option α
  dec_le : ∀ {v a}, dec v = some a → v.le (enc a)
  dec_enc : ∀ a, dec (enc a) = some a
open Enc (enc dec)
attribute [simp] Enc.dec_enc
def spL : List (Nat × (List PV → Option PV)) → Spec
  | [], _, _ => none
  | (g, s) :: r, f, args => if f = g then s args else spL r f args
@[simp] theorem spL_cons (g : Nat) (s : List PV → Option PV) (r : List (Nat × (List PV → Option PV))) (f : Nat) (args : List PV) : spL ((g, s) :: r) f args = if f = g then s args else spL r f args := rfl
@[simp] theorem spL_nil (f : Nat) (args : List PV) : spL [] f args = none := rfl
def Ok (E : VEnv) (f : Nat) (s : List PV → Option PV) : Prop := ∀ args r, s args = some r → VP E f args r
theorem goodV_nil {E : VEnv} : GoodV E (spL []) := fun f args r h => by simp at h
theorem goodV_cons {E : VEnv} {f : Nat} {s : List PV → Option PV} {l : List (Nat × (List PV → Option PV))} (h : Ok E f s) (hl : GoodV E (spL l)) : GoodV E (spL ((f, s) :: l)) := fun g args r hx => by
  simp only [spL_cons] at hx
  split at hx
  · rename_i he; subst he; exact h args r hx
  · exact hl g args r hx
section
variable {A B C D R : Type} [Enc A] [Enc B] [Enc C] [Enc D] [Enc R]
def s0 (F : Option R) : List PV → Option PV | [] => F.map enc | _ => none
def s1 (F : A → Option R) : List PV → Option PV | [a] => (dec a).bind fun a => (F a).map enc | _ => none
def s2 (F : A → B → Option R) : List PV → Option PV | [a, b] => (dec a).bind fun a => (dec b).bind fun b => (F a b).map enc | _ => none
def s3 (F : A → B → C → Option R) : List PV → Option PV | [a, b, c] => (dec a).bind fun a => (dec b).bind fun b => (dec c).bind fun c => (F a b c).map enc | _ => none
def s4 (F : A → B → C → D → Option R) : List PV → Option PV | [a, b, c, d] => (dec a).bind fun a => (dec b).bind fun b => (dec c).bind fun c => (dec d).bind fun d => (F a b c d).map enc | _ => none
theorem VP.args {E : VEnv} {f : Nat} {args args' : List PV} {r : PV} (hp : VP E f args' r) (hl : PV.leL args args') : VP E f args r := fun lo Z h ws h1 h2 h3 => by
  obtain ⟨g1, g2⟩ := leL_get hl
  refine hp lo Z h ws h1 h2 ⟨g1.symm.trans h3.1, fun i v' w a b => ?_⟩
  have hlt := (List.getElem?_eq_some_iff.1 a).1
  have ga := List.getElem?_eq_getElem (l := args) (i := i) (by omega)
  exact (h3.2 i _ w ga b).le (g2 i _ v' ga a)
theorem ok0 {E : VEnv} {f : Nat} {F : Option R} (h : ∀ r, F = some r → VP E f [] (enc r)) : Ok E f (s0 F) := fun args r hr => by
  match args with
  | [] => simp only [s0, Option.map_eq_some_iff] at hr; obtain ⟨x, h1, rfl⟩ := hr; exact h x h1
  | _ :: _ => cases hr
theorem ok1 {E : VEnv} {f : Nat} {F : A → Option R} (h : ∀ a r, F a = some r → VP E f [enc a] (enc r)) : Ok E f (s1 F) := fun args r hr => by
  match args, hr with
  | [a], hr =>
    simp only [s1, Option.bind_eq_some_iff, Option.map_eq_some_iff] at hr
    obtain ⟨a', ha, x, h1, rfl⟩ := hr
    exact (h a' x h1).args ⟨Enc.dec_le ha, trivial⟩
theorem ok2 {E : VEnv} {f : Nat} {F : A → B → Option R} (h : ∀ a b r, F a b = some r → VP E f [enc a, enc b] (enc r)) : Ok E f (s2 F) := fun args r hr => by
  match args, hr with
  | [a, b], hr =>
    simp only [s2, Option.bind_eq_some_iff, Option.map_eq_some_iff] at hr
    obtain ⟨a', ha, b', hb, x, h1, rfl⟩ := hr
    exact (h a' b' x h1).args ⟨Enc.dec_le ha, Enc.dec_le hb, trivial⟩
theorem ok3 {E : VEnv} {f : Nat} {F : A → B → C → Option R} (h : ∀ a b c r, F a b c = some r → VP E f [enc a, enc b, enc c] (enc r)) : Ok E f (s3 F) := fun args r hr => by
  match args, hr with
  | [a, b, c], hr =>
    simp only [s3, Option.bind_eq_some_iff, Option.map_eq_some_iff] at hr
    obtain ⟨a', ha, b', hb, c', hc, x, h1, rfl⟩ := hr
    exact (h a' b' c' x h1).args ⟨Enc.dec_le ha, Enc.dec_le hb, Enc.dec_le hc, trivial⟩
@[simp] theorem s0_app (F : Option R) : s0 F [] = F.map enc := rfl
@[simp] theorem s1_app (F : A → Option R) (a : PV) : s1 F [a] = (dec a).bind fun a => (F a).map enc := rfl
@[simp] theorem s2_app (F : A → B → Option R) (a b : PV) : s2 F [a, b] = (dec a).bind fun a => (dec b).bind fun b => (F a b).map enc := rfl
@[simp] theorem s3_app (F : A → B → C → Option R) (a b c : PV) : s3 F [a, b, c] = (dec a).bind fun a => (dec b).bind fun b => (dec c).bind fun c => (F a b c).map enc := rfl
@[simp] theorem s4_app (F : A → B → C → D → Option R) (a b c d : PV) : s4 F [a, b, c, d] = (dec a).bind fun a => (dec b).bind fun b => (dec c).bind fun c => (dec d).bind fun d => (F a b c d).map enc := rfl
end
instance : Enc Int where
  enc n := .int .i64 n
  dec v := match v with | .int .i64 n => some n | _ => none
  dec_le := by intro v a h; split at h <;> cases h; exact le_refl _
  dec_enc _ := rfl
instance : Enc Bool where
  enc b := .bool b
  dec v := match v with | .bool b => some b | _ => none
  dec_le := by intro v a h; split at h <;> cases h; exact le_refl _
  dec_enc _ := rfl
instance : Enc ByteArray where
  enc b := .str b
  dec v := match v with | .str b => some b | _ => none
  dec_le := by intro v a h; split at h <;> cases h; exact le_refl _
  dec_enc _ := rfl
@[simp] theorem enc_int (n : Int) : enc n = PV.int .i64 n := rfl
@[simp] theorem enc_bool (n : Bool) : enc n = PV.bool n := rfl
@[simp] theorem enc_str (n : ByteArray) : enc n = PV.str n := rfl
@[simp] theorem dec_int (n : Int) : (dec (PV.int .i64 n) : Option Int) = some n := rfl
@[simp] theorem dec_bool (n : Bool) : (dec (PV.bool n) : Option Bool) = some n := rfl
@[simp] theorem dec_str (n : ByteArray) : (dec (PV.str n) : Option ByteArray) = some n := rfl
end Go.RS

/- The value machine: lists, structs, several results. -/
namespace Go.RS
open Go
open Go.RS.Enc (enc dec)
/-- Elements of lists, fields of structs. -/
class El (α : Type) where
  sz : Nat
  cells : α → List PV
  un : List PV → Option α
  len : ∀ a, (cells a).length = sz
  un_le : ∀ {cs a}, un cs = some a → PV.leL cs (cells a)
  un_cells : ∀ a, un (cells a) = some a
  isF : ∀ a, PV.isFL (cells a) = true
theorem leL_append : ∀ {a b c d : List PV}, PV.leL a b → PV.leL c d → PV.leL (a ++ c) (b ++ d)
  | [], [], c, d, _, h => h
  | x :: a, y :: b, c, d, h1, h2 => ⟨h1.1, leL_append h1.2 h2⟩
  | [], _ :: _, _, _, h, _ => h.elim
  | _ :: _, [], _, _, h, _ => h.elim
theorem isFL_append : ∀ {a b : List PV}, PV.isFL (a ++ b) = (PV.isFL a && PV.isFL b)
  | [], b => rfl
  | x :: a, b => by simp [PV.isFL, isFL_append (a := a), Bool.and_assoc]
section
variable {α : Type} [El α]
def encL (l : List α) : List PV := l.flatMap El.cells
def decL : Nat → List PV → Option (List α)
  | 0, [] => some []
  | 0, _ :: _ => none
  | n + 1, cs => (El.un (cs.take (El.sz α))).bind fun a => (decL n (cs.drop (El.sz α))).map (a :: ·)
@[simp] theorem encL_nil : encL ([] : List α) = [] := rfl
theorem encL_cons (a : α) (l : List α) : encL (a :: l) = El.cells a ++ encL l := rfl
@[simp] theorem encL_append (a b : List α) : encL a ++ encL b = encL (a ++ b) := by simp [encL]
@[simp] theorem encL_length : ∀ l : List α, (encL l).length = l.length * El.sz α
  | [] => by simp
  | a :: l => by rw [encL_cons, List.length_append, El.len, encL_length l, List.length_cons, Nat.add_mul]; omega
theorem encL_snoc (a : List α) (b : α) : encL a ++ El.cells b = encL (a ++ [b]) := by simp [encL]
theorem encL_drop : ∀ (l : List α) (i : Nat), (encL l).drop (i * El.sz α) = encL (l.drop i)
  | [], i => by simp
  | a :: l, 0 => by simp
  | a :: l, i + 1 => by
    rw [encL_cons, Nat.add_mul, Nat.one_mul, Nat.add_comm, ← List.drop_drop]
    rw [List.drop_append_of_le_length (by rw [El.len]; omega), ← El.len a, List.drop_length, El.len, List.nil_append, List.drop_succ_cons]
    exact encL_drop l i
theorem encL_take : ∀ (l : List α) (i : Nat), (encL l).take (i * El.sz α) = encL (l.take i)
  | [], i => by simp
  | a :: l, 0 => by simp
  | a :: l, i + 1 => by
    rw [encL_cons, Nat.add_mul, Nat.one_mul, Nat.add_comm, ← El.len a, List.take_length_add_append, El.len, List.take_succ_cons, encL_cons, encL_take l i]
theorem encL_get (l : List α) (i : Nat) (h : i < l.length) : (encL l).drop (i * El.sz α) = El.cells l[i] ++ encL (l.drop (i + 1)) := by
  rw [encL_drop, List.drop_eq_getElem_cons h, encL_cons]
theorem encL_isF : ∀ l : List α, PV.isFL (encL l) = true
  | [] => rfl
  | a :: l => by rw [encL_cons, isFL_append, El.isF, encL_isF l]; rfl
theorem decL_encL : ∀ l : List α, decL l.length (encL l) = some l
  | [] => rfl
  | a :: l => by
    rw [encL_cons, List.length_cons, decL, ← El.len a, List.take_left, List.drop_left, El.un_cells, Option.bind_some, decL_encL l]
    rfl
theorem decL_le : ∀ {n : Nat} {cs : List PV} {l : List α}, decL n cs = some l → n = l.length ∧ PV.leL cs (encL l)
  | 0, [], l, h => by cases h; exact ⟨rfl, trivial⟩
  | 0, _ :: _, l, h => by cases h
  | n + 1, cs, l, h => by
    simp only [decL, Option.bind_eq_some_iff, Option.map_eq_some_iff] at h
    obtain ⟨a, h1, l', h2, rfl⟩ := h
    obtain ⟨g1, g2⟩ := decL_le h2
    refine ⟨by simp [g1], ?_⟩
    rw [encL_cons, ← List.take_append_drop (El.sz α) cs]
    exact leL_append (El.un_le h1) g2
instance : Enc (List α) where
  enc l := .lst false l.length (El.sz α) (encL l)
  dec v := match v with
    | .nilS => some []
    | .lst ex n e cs => if e = El.sz α ∨ (ex = true ∧ n = 0) then decL n cs else none
    | _ => none
  dec_le := by
    intro v a h
    split at h
    · cases h; exact ⟨rfl, rfl⟩
    · split at h
      · rename_i he
        obtain ⟨g1, g2⟩ := decL_le h
        exact ⟨fun hx => by simp at hx, g1, he, .inr g2⟩
      · cases h
    · cases h
  dec_enc l := by
    show (if _ then decL l.length (encL l) else none) = some l
    rw [if_pos (.inl rfl), decL_encL]
theorem enc_list (l : List α) : enc l = PV.lst false l.length (El.sz α) (encL l) := rfl
@[simp] theorem dec_nilS : (dec PV.nilS : Option (List α)) = some [] := rfl
theorem dec_lst (ex : Bool) (l : List α) : (dec (PV.lst ex l.length (El.sz α) (encL l)) : Option (List α)) = some l := by
  show (if _ then decL l.length (encL l) else none) = some l
  rw [if_pos (.inl rfl), decL_encL]
end
@[simp] theorem enc_list_flat {α : Type} [El α] (l : List α) : (enc l).flat = false := rfl
@[simp] theorem enc_list_isF {α : Type} [El α] (l : List α) : (enc l).isF = true := rfl
instance elInt : El Int where
  sz := 1
  cells n := [.int .i64 n]
  un cs := match cs with | [v] => dec v | _ => none
  len _ := rfl
  un_le := by intro cs a h; split at h <;> first | cases h; done | exact ⟨Enc.dec_le h, trivial⟩
  un_cells a := rfl
  isF _ := rfl
instance elBool : El Bool where
  sz := 1
  cells n := [.bool n]
  un cs := match cs with | [v] => dec v | _ => none
  len _ := rfl
  un_le := by intro cs a h; split at h <;> first | cases h; done | exact ⟨Enc.dec_le h, trivial⟩
  un_cells a := rfl
  isF _ := rfl
instance elStr : El ByteArray where
  sz := 1
  cells n := [.str n]
  un cs := match cs with | [v] => dec v | _ => none
  len _ := rfl
  un_le := by intro cs a h; split at h <;> first | cases h; done | exact ⟨Enc.dec_le h, trivial⟩
  un_cells a := rfl
  isF _ := rfl
instance elList {α : Type} [El α] : El (List α) where
  sz := 1
  cells l := [enc l]
  un cs := match cs with | [v] => dec v | _ => none
  len _ := rfl
  un_le := by intro cs a h; split at h <;> first | cases h; done | exact ⟨Enc.dec_le h, trivial⟩
  un_cells a := Enc.dec_enc a
  isF _ := rfl
/-- A struct by its cells. -/
@[reducible] def encOfEl (α : Type) [El α] : Enc α where
  enc a := .agg (El.cells a)
  dec v := match v with | .agg cs => El.un cs | _ => none
  dec_le := by intro v a h; split at h <;> first | cases h; done | exact .inr (El.un_le h)
  dec_enc a := El.un_cells a
structure T3 (A B C : Type) where
  a : A
  b : B
  c : C
structure T4 (A B C D : Type) where
  a : A
  b : B
  c : C
  d : D
section
variable {A B C D : Type} [Enc A] [Enc B] [Enc C] [Enc D]
instance : Enc (A × B) where
  enc p := .tup [enc p.1, enc p.2]
  dec v := match v with | .tup [a, b] => (dec a).bind fun a => (dec b).map fun b => (a, b) | _ => none
  dec_le := by
    intro v a h
    split at h
    · simp only [Option.bind_eq_some_iff, Option.map_eq_some_iff] at h
      obtain ⟨x, h1, y, h2, rfl⟩ := h
      exact .inr ⟨Enc.dec_le h1, Enc.dec_le h2, trivial⟩
    · cases h
  dec_enc p := by simp
instance : Enc (T3 A B C) where
  enc p := .tup [enc p.a, enc p.b, enc p.c]
  dec v := match v with | .tup [a, b, c] => (dec a).bind fun a => (dec b).bind fun b => (dec c).map fun c => ⟨a, b, c⟩ | _ => none
  dec_le := by
    intro v a h
    split at h
    · simp only [Option.bind_eq_some_iff, Option.map_eq_some_iff] at h
      obtain ⟨x, h1, y, h2, z, h3, rfl⟩ := h
      exact .inr ⟨Enc.dec_le h1, Enc.dec_le h2, Enc.dec_le h3, trivial⟩
    · cases h
  dec_enc p := by simp
instance : Enc (T4 A B C D) where
  enc p := .tup [enc p.a, enc p.b, enc p.c, enc p.d]
  dec v := match v with | .tup [a, b, c, d] => (dec a).bind fun a => (dec b).bind fun b => (dec c).bind fun c => (dec d).map fun d => ⟨a, b, c, d⟩ | _ => none
  dec_le := by
    intro v a h
    split at h
    · simp only [Option.bind_eq_some_iff, Option.map_eq_some_iff] at h
      obtain ⟨x, h1, y, h2, z, h3, u, h4, rfl⟩ := h
      exact .inr ⟨Enc.dec_le h1, Enc.dec_le h2, Enc.dec_le h3, Enc.dec_le h4, trivial⟩
    · cases h
  dec_enc p := by simp
@[simp] theorem enc_pair (a : A) (b : B) : enc (a, b) = PV.tup [enc a, enc b] := rfl
@[simp] theorem enc_t3 (a : A) (b : B) (c : C) : enc (T3.mk a b c) = PV.tup [enc a, enc b, enc c] := rfl
@[simp] theorem enc_t4 (a : A) (b : B) (c : C) (d : D) : enc (T4.mk a b c d) = PV.tup [enc a, enc b, enc c, enc d] := rfl
end
@[simp] theorem sz_int : El.sz Int = 1 := rfl
@[simp] theorem sz_bool : El.sz Bool = 1 := rfl
@[simp] theorem sz_str : El.sz ByteArray = 1 := rfl
@[simp] theorem sz_list {α : Type} [El α] : El.sz (List α) = 1 := rfl
@[simp] theorem cells_int (n : Int) : El.cells n = [PV.int .i64 n] := rfl
@[simp] theorem cells_bool (n : Bool) : El.cells n = [PV.bool n] := rfl
@[simp] theorem cells_str (n : ByteArray) : El.cells n = [PV.str n] := rfl
@[simp] theorem cells_list {α : Type} [El α] (n : List α) : El.cells n = [enc n] := rfl
theorem get_Int' (l : List Int) (k : Nat) (h : k < l.length) : List.drop k (encL l) = [PV.int .i64 l[k]] ++ encL (l.drop (k + 1)) := by simpa [El.cells, El.sz] using encL_get l k h
/-- One more element. -/
theorem append_one {α : Type} [El α] (M : VM) (t bytes : Nat) (out : List α) (x : α) (h : M[t]? = some (.vec (encL out))) (hs : El.sz α ≠ 0) (hf : fits (out.length + 1) bytes = true) (hc : (El.cells x).all PV.scal = true) :
    appendV M (El.sz α) bytes (.sl t (out.length * El.sz α) 0 out.length (openCap + El.sz α) (El.sz α)) (.lst true 1 (El.sz α) (El.cells x)) =
      some (.sl t ((out.length + 1) * El.sz α) 0 (out.length + 1) (openCap + El.sz α) (El.sz α), M.set t (.vec (encL (out ++ [x])))) := by
  have hne : El.cells x ≠ [] := by intro he; have := El.len x; rw [he] at this; simp at this; omega
  have hv : vcells M t = some (encL out) := by unfold vcells; rw [h]
  have he : elemsV M (El.sz α) (.lst true 1 (El.sz α) (El.cells x)) = some (1, El.cells x) := by simp [elemsV, okE]
  unfold appendV
  simp only [he]
  rw [if_pos ⟨trivial, hs⟩, if_neg (by decide)]
  cases out with
  | nil =>
    have e0 : (([] : List α).length * El.sz α) = 0 := by simp
    rw [if_pos e0]
    simp only [h, encL_nil]
    rw [if_pos ⟨trivial, rfl, by simpa using hf, El.isF x, hne⟩, El.len]
    simp [encL]
  | cons a out =>
    have e0 : ¬ ((a :: out).length * El.sz α) = 0 := Nat.mul_ne_zero (by simp) hs
    rw [if_neg e0]
    simp only [hv]
    rw [if_neg (by simp), if_pos (by omega), if_pos ⟨trivial, trivial, trivial, hf, hc⟩]
    simp only [vput, h, El.isF, if_true, Option.map_some, El.len, encL_snoc, Nat.add_mul, Nat.one_mul]
theorem fzSl_vec {α : Type} [El α] (M : VM) (t : Nat) (out : List α) (h : M[t]? = some (.vec (encL out))) (hs : El.sz α ≠ 0) :
    fzSl M t (out.length * El.sz α) 0 out.length (openCap + El.sz α) (El.sz α) = if out.length = 0 then .nilS else .lst (openCap + El.sz α == out.length) out.length (El.sz α) (encL out) := by
  unfold fzSl
  cases out with
  | nil => simp
  | cons a out =>
    have e0 : ¬ ((a :: out).length * El.sz α) = 0 := Nat.mul_ne_zero (by simp) hs
    rw [if_neg e0, if_neg (by simp)]
    simp only [h]
    rw [if_pos ⟨encL_length _, by omega, .inr trivial⟩, List.drop_zero, ← encL_length, List.take_length]
theorem dec_fzSl {α : Type} [El α] (M : VM) (t : Nat) (out : List α) (h : M[t]? = some (.vec (encL out))) (hs : El.sz α ≠ 0) :
    (dec (fzSl M t (out.length * El.sz α) 0 out.length (openCap + El.sz α) (El.sz α)) : Option (List α)) = some out := by
  rw [fzSl_vec M t out h hs]
  split
  · rename_i h0; rw [List.length_eq_zero_iff] at h0; subst h0; rfl
  · exact dec_lst _ out
theorem le_fzSl {α : Type} [El α] (M : VM) (t : Nat) (out : List α) (h : M[t]? = some (.vec (encL out))) (hs : El.sz α ≠ 0) :
    (fzSl M t (out.length * El.sz α) 0 out.length (openCap + El.sz α) (El.sz α)).le (.lst false out.length (El.sz α) (encL out)) = True := by
  rw [fzSl_vec M t out h hs]
  refine eq_true ?_
  split
  · rename_i h0; rw [List.length_eq_zero_iff] at h0; subst h0; exact ⟨rfl, rfl⟩
  · exact ⟨fun hx => by simp at hx, rfl, .inl rfl, .inl rfl⟩
@[simp] theorem decf_Int (M : VM) (t : Nat) (out : List Int) (h : M[t]? = some (.vec (encL out))) : (dec (fzSl M t out.length 0 out.length (openCap + 1) 1) : Option (List Int)) = some out := by
  simpa using dec_fzSl M t out h (by decide)
@[simp] theorem lef_Int (M : VM) (t : Nat) (out : List Int) (h : M[t]? = some (.vec (encL out))) : (fzSl M t out.length 0 out.length (openCap + 1) 1).le (.lst false out.length 1 (encL out)) = True := by
  simpa using le_fzSl M t out h (by decide)
@[simp] theorem decf_List {α : Type} [El α] (M : VM) (t : Nat) (out : List (List α)) (h : M[t]? = some (.vec (encL out))) : (dec (fzSl M t out.length 0 out.length (openCap + 1) 1) : Option (List (List α))) = some out := by
  simpa using dec_fzSl M t out h (by simp)
@[simp] theorem lef_List {α : Type} [El α] (M : VM) (t : Nat) (out : List (List α)) (h : M[t]? = some (.vec (encL out))) : (fzSl M t out.length 0 out.length (openCap + 1) 1).le (.lst false out.length 1 (encL out)) = True := by
  simpa using le_fzSl M t out h (by simp)
@[simp] theorem app_Int (M : VM) (t bytes : Nat) (out : List Int) (x : Int) (h : M[t]? = some (.vec (encL out))) (hf : fits (out.length + 1) bytes = true) :
    appendV M 1 bytes (.sl t out.length 0 out.length (openCap + 1) 1) (.lst true 1 1 [.int .i64 x]) = some (.sl t (out.length + 1) 0 (out.length + 1) (openCap + 1) 1, M.set t (.vec (encL (out ++ [x])))) := by
  simpa using append_one M t bytes out x h (by decide) hf rfl
@[simp] theorem app_List {α : Type} [El α] (M : VM) (t bytes : Nat) (out : List (List α)) (q : Nat) (x : List α) (h : M[t]? = some (.vec (encL out))) (hf : fits (out.length + 1) bytes = true) :
    appendV M 1 bytes (.sl t out.length 0 out.length (openCap + 1) 1) (.lst true 1 1 [.lst false x.length (El.sz α) (encL x)]) = some (.sl t (out.length + 1) 0 (out.length + 1) (openCap + 1) 1, M.set t (.vec (encL (out ++ [x])))) := by
  simpa [enc_list] using append_one M t bytes out x h (by simp) hf rfl
@[simp] theorem decl_Int (ex : Bool) (q : Nat) (l : List Int) (h : q = l.length) : (dec (PV.lst ex q 1 (encL l)) : Option (List Int)) = some l := by subst h; exact dec_lst ex l
@[simp] theorem decl_Str (ex : Bool) (q : Nat) (l : List ByteArray) (h : q = l.length) : (dec (PV.lst ex q 1 (encL l)) : Option (List ByteArray)) = some l := by subst h; exact dec_lst ex l
@[simp] theorem decl_List {α : Type} [El α] (ex : Bool) (q : Nat) (l : List (List α)) (h : q = l.length) : (dec (PV.lst ex q 1 (encL l)) : Option (List (List α))) = some l := by subst h; exact dec_lst ex l
theorem at_Int (l : List Int) (k : Nat) (h : k < l.length) : (encL l)[k]? = some (PV.int .i64 l[k]) := by
  have := get_Int' l k h
  rw [← List.head?_drop, this]; rfl
@[simp] theorem atg_Int (l : List Int) (k : Nat) (h : k < (encL l).length) : (encL l)[k] = PV.int .i64 (l[k]'(by simpa [El.sz] using h)) := by
  have h2 : k < l.length := by simpa [El.sz] using h
  have := at_Int l k h2
  rw [List.getElem?_eq_getElem h] at this
  exact Option.some.inj this
theorem splice_Int (l : List Int) (k : Nat) (v : Int) (h : k < l.length) : spliceV (encL l) k [PV.int .i64 v] = encL (l.set k v) := by
  unfold spliceV
  have h1 : (encL l).take k = encL (l.take k) := by simpa using encL_take l k
  have h2 : (encL l).drop (k + 1) = encL (l.drop (k + 1)) := by simpa using encL_drop l (k + 1)
  rw [List.length_singleton, h1, h2, List.set_eq_take_append_cons_drop, if_pos h]
  show encL (l.take k) ++ El.cells v ++ encL (l.drop (k + 1)) = _
  rw [encL_snoc, encL_append]; simp
theorem get_Int (l : List Int) (k : Nat) (h : k < l.length) : List.drop k (encL l) = [PV.int .i64 l[k]] ++ encL (l.drop (k + 1)) := by simpa using encL_get l k h
theorem snoc_Int (l : List Int) (x : Int) : encL l ++ [PV.int .i64 x] = encL (l ++ [x]) := encL_snoc l x
end Go.RS

/- The value machine: inputs that lie in a real heap. -/
namespace Go.RS
open Go Go.ChangeShapes Go.WideShapes
open Go.RS.Enc (enc dec)

structure Base (P : Program) (W : World) (h : AH) (β : Bij) : Prop where
  dom : ∀ b r d, β b = some (r, d) → b < h.size ∧ r < W.heap.size
  obj : ∀ b r d o, β b = some (r, d) → h[b]? = some o → ORel P β False o W.heap[r]? d
  c0 : ∃ c, h[0]? = some (.cells c)
structure Onto (h : AH) (β : Bij) (h' : AH) (β' : Bij) : Prop where
  le : BLe β β'
  sz : h.size ≤ h'.size
  eq : ∀ b, b < h.size → h'[b]? = h[b]?
theorem Onto.refl (h : AH) (β : Bij) : Onto h β h β := ⟨BLe.refl β, Nat.le_refl _, fun _ _ => rfl⟩
theorem Onto.trans {h h1 h2 : AH} {β β1 β2 : Bij} (a : Onto h β h1 β1) (b : Onto h1 β1 h2 β2) : Onto h β h2 β2 :=
  ⟨a.le.trans b.le, Nat.le_trans a.sz b.sz, fun x hx => by rw [b.eq x (by have := a.sz; omega), a.eq x hx]⟩
def Got (h : AH) (β : Bij) (vs cs : List Value) (ps : List PV) : Prop := LRel β vs cs ∧ LF (fun b => b < h.size) h ps vs
theorem Got.up {h h' : AH} {β β' : Bij} (o : Onto h β h' β') {vs cs : List Value} {ps : List PV} (g : Got h β vs cs ps) : Got h' β' vs cs ps :=
  ⟨g.1.mono o.le, g.2.mono fun b hb _ => ⟨Nat.lt_of_lt_of_le hb o.sz, o.eq b hb⟩⟩
theorem Got.nil (h : AH) (β : Bij) : Got h β [] [] [] := ⟨.nil β, rfl, fun i v v' a => by simp at a⟩
theorem Got.append {h : AH} {β : Bij} {vs cs vs' cs' : List Value} {ps ps' : List PV} (g : Got h β vs cs ps) (k : Got h β vs' cs' ps') : Got h β (vs ++ vs') (cs ++ cs') (ps ++ ps') := by
  refine ⟨g.1.append k.1, by simp [g.2.1, k.2.1], fun i v v' a b => ?_⟩
  by_cases hi : i < ps.length
  · rw [List.getElem?_append_left hi] at a
    rw [List.getElem?_append_left (by rw [← g.2.1]; exact hi)] at b
    exact g.2.2 i v v' a b
  · rw [List.getElem?_append_right (by omega)] at a
    rw [List.getElem?_append_right (by rw [← g.2.1]; omega), ← g.2.1] at b
    exact k.2.2 _ v v' a b
theorem Got.one {h : AH} {β : Bij} {v c : Value} {p : PV} (r : VRel β v c) (q : PF (fun b => b < h.size) h p v) : Got h β [v] [c] [p] := by
  refine ⟨.cons r (.nil β), rfl, fun i x y a b => ?_⟩
  cases i with
  | zero => simp at a b; subst a b; exact q
  | succ i => simp at a
theorem Base.push {P : Program} {W : World} {h : AH} {β : Bij} (B : Base P W h β) {cs : List Value} {r off : Nat} {c' : Array Value} {e : TypeId} {fz : Nat × Nat} (hW : W.heap[r]? = some (.cells c' e fz))
    (hv : ∀ (i : Nat) (v : Value), cs[i]? = some v → ∃ v', c'[off + i]? = some v' ∧ VRel β v v') :
    Base P W (h.push (.cells cs)) (bset β h.size (r, (off, c'.size))) ∧ Onto h β (h.push (.cells cs)) (bset β h.size (r, (off, c'.size))) := by
  have hle : BLe β (bset β h.size (r, (off, c'.size))) := fun b x hx => by
    have := (B.dom b x.1 x.2 (by simpa using hx)).1
    rw [bset_other β _ (by omega)]; exact hx
  refine ⟨⟨fun b r' d hb => ?_, fun b r' d o hb ho => ?_, ?_⟩, hle, by simp, fun b hb => by rw [Array.getElem?_push_lt hb, Array.getElem?_eq_getElem hb]⟩
  · by_cases hbs : b = h.size
    · subst hbs
      rw [bset_same] at hb
      cases hb
      exact ⟨by simp, (Array.getElem?_eq_some_iff.1 hW).1⟩
    · rw [bset_other β _ hbs] at hb
      have := B.dom b r' d hb
      exact ⟨by simp; omega, this.2⟩
  · by_cases hbs : b = h.size
    · subst hbs
      rw [bset_same] at hb
      cases hb
      rw [Array.getElem?_push_size] at ho
      cases ho
      exact ⟨c', e, fz, hW, fun hf => hf.elim, rfl, fun i v hi => let ⟨v', a, b⟩ := hv i v hi; ⟨v', a, b.mono hle⟩⟩
    · rw [bset_other β _ hbs] at hb
      have hlt := (B.dom b r' d hb).1
      rw [Array.getElem?_push_lt hlt, ← Array.getElem?_eq_getElem hlt] at ho
      exact (B.obj b r' d o hb ho).mono hle
  · obtain ⟨c, hc⟩ := B.c0
    have hlt := (Array.getElem?_eq_some_iff.1 hc).1
    exact ⟨c, by rw [Array.getElem?_push_lt hlt, ← Array.getElem?_eq_getElem hlt, hc]⟩

section
variable {H : Type} (en : TypeId × Value → H) (P : Program) (W : World) (base : Nat) (held : Bool)
/-- Data of a type, read from a real heap, as a value of Lean. -/
def Rd (t : TypeId) (α : Type) [El α] : Prop := P.cellsOf t = El.sz α ∧ ∀ (fuel : Nat) (cs : List Value) (x : DataW H × List MemPlace), DataW.trod en P W base (fun _ => true) held fuel t cs = some x →
  ∀ (h : AH) (β : Bij), Base P W h β → ∃ (a : α) (h' : AH) (β' : Bij) (vs : List Value), Base P W h' β' ∧ Onto h β h' β' ∧ Got h' β' vs cs (El.cells a)
end
section
variable {H : Type} {en : TypeId × Value → H} {P : Program} {W : World} {base : Nat} {held : Bool}
theorem Rd.int {t : TypeId} (ht : P.underlying t = some (.int .i64)) (hc : P.cellsOf t = 1) : Rd en P W base held t Int := by
  refine ⟨hc, fun fuel cs x hx h β B => ?_⟩
  obtain ⟨n, rfl, _, _⟩ := DataW.trod_int ht hx
  exact ⟨n, h, β, [.int .i64 n], B, .refl h β, .one (.int _ _) (.int _ _)⟩
theorem cells_at {a : Addr} {n : Nat} {cs : List Value} (h : W.cells? base a n = some cs) : cs.length = n ∧ ∀ j, j < n → W.cell? (a.add j) = cs[j]? := by
  unfold World.cells? at h
  split at h
  · exact ⟨by simpa using mapM_some_length h, fun j hj => mapM_some_get h j j (by simp [hj])⟩
  · cases h
theorem cell_at {a : Addr} {v : Value} (h : W.cell? a = some v) : a.spot = none ∧ ∃ c e fz, W.heap[a.block]? = some (.cells c e fz) ∧ c[a.off]? = some v := by
  unfold World.cell? at h
  split at h
  · rename_i c e fz hc
    split at h
    · cases h
    · rename_i hs
      exact ⟨by simpa using hs, c, e, fz, hc, h⟩
  · cases h
theorem Rd.list {t e : TypeId} {α : Type} [El α] (ht : P.underlying t = some (.slice e)) (hc : P.cellsOf t = 1) (hz : 0 < El.sz α) (hr : Rd en P W base held e α) : Rd en P W base held t (List α) := by
  obtain ⟨hce, hr⟩ := hr
  refine ⟨hc, fun fuel cs x hx h β B => ?_⟩
  rcases DataW.trod_slice ht hx with ⟨rfl, _⟩ | ⟨a, len, cap, elems, rest, n, _, rfl, _, hb, hlc, hcm, hel, helem, hrest, _⟩
  · exact ⟨[], h, β, [.slice none 0 0], B, .refl h β, .one (.sl0 0 0) (.lst0 false _)⟩
  · obtain ⟨hrl, hrg⟩ := hrest rfl
    rw [hce] at helem hrg
    by_cases hcap : cap = 0
    · subst hcap
      obtain rfl : len = 0 := by omega
      obtain ⟨c, hc0⟩ := B.c0
      have h0 := (Array.getElem?_eq_some_iff.1 hc0).1
      exact ⟨[], h, β, [.slice (some ⟨0, 0, none⟩) 0 0], B, .refl h β, .one (.sle _ _) (.lst (c' := []) (by simp) h0 hc0 (Nat.zero_le _) (by simp) rfl (fun i v v' x => by simp at x) (by simp) (Nat.le_refl _) (fun hx => by cases hx) (fun hx => by simp [openCap] at hx))⟩
    · -- the first element lies there
      have hfirst : ∃ v0, W.cell? a = some v0 := by
        have key : ∀ (l : List (DataW H × List MemPlace)) (i : Nat), 0 < l.length → (W.cells? base (a.add 0) (El.sz α)).bind (DataW.trod en P W base (fun _ => true) held n e) = l[0]? → ∃ v0, W.cell? a = some v0 := by
          intro l i hl hg
          rw [List.getElem?_eq_getElem hl, Option.bind_eq_some_iff] at hg
          obtain ⟨cs0, g1, _⟩ := hg
          obtain ⟨g2, g3⟩ := cells_at g1
          have := g3 0 hz
          rw [List.getElem?_eq_getElem (by omega)] at this
          exact ⟨_, this⟩
        by_cases hl0 : 0 < len
        · exact key elems 0 (by omega) (by simpa using helem 0 hl0)
        · obtain rfl : len = 0 := by omega
          exact key rest 0 (by omega) (by simpa using hrg 0 (by omega))
      obtain ⟨v0, hv0⟩ := hfirst
      obtain ⟨hsp, c', ty, fz, hW, _⟩ := cell_at hv0
      have haddr : ∀ i j, (a.add i).add j = ⟨a.block, a.off + i + j, none⟩ := by
        intro i j
        obtain ⟨ab, ao, as⟩ := a
        simp only at hsp; subst hsp
        unfold Addr.add
        split <;> split <;> simp_all
      have cellv : ∀ i j, W.cell? ((a.add i).add j) = c'[a.off + i + j]? := by
        intro i j
        rw [haddr]
        unfold World.cell?
        rw [hW]; rfl
      have build : ∀ k, k ≤ len → ∃ (l : List α) (h' : AH) (β' : Bij) (vs rs : List Value), l.length = k ∧ rs.length = k * El.sz α ∧ (∀ j, j < k * El.sz α → c'[a.off + j]? = rs[j]?) ∧ Base P W h' β' ∧ Onto h β h' β' ∧ Got h' β' vs rs (encL l) := by
        intro k
        induction k with
        | zero => intro _; exact ⟨[], h, β, [], [], rfl, by simp, fun j hj => by omega, B, .refl h β, .nil h β⟩
        | succ k ih =>
          intro hk
          obtain ⟨l, h', β', vs, rs, g1, g2, g3, g4, g5, g6⟩ := ih (by omega)
          have he := helem k (by omega)
          rw [List.getElem?_eq_getElem (by omega), Option.bind_eq_some_iff] at he
          obtain ⟨cs1, q1, q2⟩ := he
          obtain ⟨q3, q4⟩ := cells_at q1
          obtain ⟨x1, h2, β2, vs1, r1, r2, r3⟩ := hr n cs1 _ q2 h' β' g4
          refine ⟨l ++ [x1], h2, β2, vs ++ vs1, rs ++ cs1, by simp [g1], by simp [g2, q3, Nat.add_mul], fun j hj => ?_, r1, g5.trans r2, ?_⟩
          · by_cases hjk : j < k * El.sz α
            · rw [List.getElem?_append_left (by omega)]; exact g3 j hjk
            · rw [List.getElem?_append_right (by omega), g2]
              have hs1 : j - k * El.sz α < El.sz α := by rw [Nat.add_mul] at hj; omega
              rw [← q4 _ hs1, cellv]
              congr 1
              omega
          · rw [← encL_snoc]
            exact (g6.up r2).append r3
      obtain ⟨l, h', β', vs, rs, g1, g2, g3, g4, g5, g6⟩ := build len (Nat.le_refl _)
      have hop : openCap = 18446744073709551616 := rfl
      have hml : maxLen = 9223372036854775807 := rfl
      obtain ⟨p1, p2⟩ := g4.push (cs := vs) (off := a.off) hW fun i v hi => by
        obtain ⟨v', k1, k2⟩ := g6.1.get hi
        have hlt : i < rs.length := (List.getElem?_eq_some_iff.1 k1).1
        exact ⟨v', by rw [g3 i (by omega)]; exact k1, k2⟩
      have hvl : vs.length = (encL l).length := g6.2.1.symm
      refine ⟨l, _, _, [.slice (some ⟨h'.size, 0, none⟩) len openCap], p1, g5.trans p2, .one (.sl ⟨rfl, hsp, (a.off, c'.size), bset_same _ _ _, by simp⟩ ⟨by omega, .inr ⟨0, rfl, hlc, fun hx => by omega⟩⟩) ?_⟩
      subst g1
      exact .lst (c := vs) (c' := vs) (by simp) (by simp) (Array.getElem?_push_size) (Nat.zero_le _) (by rw [List.drop_zero, ← hvl, List.take_length]) hvl (fun i v v' x y => (g6.up p2).2.2 i v v' x y) (by omega) (by omega) (fun hx => by cases hx) (fun hx => by omega)
end
end Go.RS

/- The value machine: arrays of numbers, structs in structs. -/
namespace Go.RS
open Go
open Go.RS.Enc (enc dec)
/-- An array. -/
structure Arr (n : Nat) (α : Type) where
  l : List α
  h : l.length = n
theorem Arr.ext {n : Nat} {α : Type} {a b : Arr n α} (h : a.l = b.l) : a = b := by cases a; cases b; cases h; rfl
instance elArr (n : Nat) (α : Type) [El α] : El (Arr n α) where
  sz := n * El.sz α
  cells a := encL a.l
  un cs := match (decL n cs : Option (List α)) with | some l => if h : l.length = n then some ⟨l, h⟩ else none | none => none
  len a := by rw [encL_length, a.h]
  un_le := by
    intro cs a h
    split at h
    · rename_i l hl
      split at h
      · cases h; exact (decL_le hl).2
      · cases h
    · cases h
  un_cells a := by
    have := decL_encL a.l
    rw [a.h] at this
    simp only [this, a.h, dite_true]
  isF a := encL_isF a.l
instance encArr (n : Nat) (α : Type) [El α] : Enc (Arr n α) := encOfEl (Arr n α)
theorem enc_Arr {n : Nat} {α : Type} [El α] (a : Arr n α) : enc a = PV.agg (encL a.l) := rfl
theorem cells_Arr {n : Nat} {α : Type} [El α] (a : Arr n α) : El.cells a = encL a.l := rfl
/-- A struct in a struct. -/
structure Cat (α β : Type) where
  a : α
  b : β
instance elCat {α β : Type} [El α] [El β] : El (Cat α β) where
  sz := El.sz α + El.sz β
  cells x := El.cells x.a ++ El.cells x.b
  un cs := (El.un (cs.take (El.sz α))).bind fun a => (El.un (cs.drop (El.sz α))).bind fun b => some ⟨a, b⟩
  len x := by rw [List.length_append, El.len, El.len]
  un_le := by
    intro cs x h
    simp only [Option.bind_eq_some_iff] at h
    obtain ⟨a, h1, b, h2, h3⟩ := h
    cases h3
    rw [← List.take_append_drop (El.sz α) cs]
    exact leL_append (El.un_le h1) (El.un_le h2)
  un_cells x := by
    have e1 : (El.cells x.a ++ El.cells x.b).take (El.sz α) = El.cells x.a := by rw [← El.len x.a, List.take_left]
    have e2 : (El.cells x.a ++ El.cells x.b).drop (El.sz α) = El.cells x.b := by rw [← El.len x.a, List.drop_left]
    rw [e1, e2, El.un_cells, Option.bind_some, El.un_cells, Option.bind_some]
  isF x := by rw [isFL_append, El.isF, El.isF]; rfl
instance encCat {α β : Type} [El α] [El β] : Enc (Cat α β) := encOfEl (Cat α β)
theorem enc_Cat {α β : Type} [El α] [El β] (x : Cat α β) : enc x = PV.agg (El.cells x.a ++ El.cells x.b) := rfl
theorem dec_Cat {α β : Type} [El α] [El β] (a : α) (b : β) : (dec (PV.agg (El.cells a ++ El.cells b)) : Option (Cat α β)) = some ⟨a, b⟩ := El.un_cells (Cat.mk a b)
theorem atoms_ints : ∀ (a b : List Int), a.length = b.length → atomsEqV (List.replicate a.length .int) (encL a) (encL b) = some (decide (a = b))
  | [], [], _ => rfl
  | x :: a, y :: b, h => by
    have ih := atoms_ints a b (by simpa using h)
    have e : ∀ (z : Int) (l : List Int), encL (z :: l) = .int .i64 z :: encL l := fun _ _ => rfl
    rw [List.length_cons, List.replicate_succ, e, e]
    simp only [atomsEqV, ih]
    simp [atomEqV]
    rw [Bool.eq_iff_iff]
    simp
  | [], _ :: _, h => by simp at h
  | _ :: _, [], h => by simp at h
end Go.RS

/- The value machine: inputs of every kind that lie in a real heap. -/
namespace Go.RS
open Go Go.ChangeShapes Go.WideShapes
open Go.RS.Enc (enc dec)
section
variable {H : Type} {en : TypeId × Value → H} {P : Program} {W : World} {base : Nat} {held : Bool}
theorem Rd.bool {t : TypeId} (ht : P.underlying t = some .bool) (hc : P.cellsOf t = 1) : Rd en P W base held t Bool := by
  refine ⟨hc, fun fuel cs x hx h β B => ?_⟩
  obtain ⟨n, rfl, _⟩ := DataW.trod_bool ht hx
  exact ⟨n, h, β, [.bool n], B, .refl h β, .one (.bool _) (.bool _)⟩
theorem Rd.map {t : TypeId} {α δ : Type} [El α] [El δ] (g : α → δ) (hz : El.sz δ = El.sz α) (hc : ∀ a, El.cells (g a) = El.cells a) (r : Rd en P W base held t α) : Rd en P W base held t δ := by
  refine ⟨by rw [hz]; exact r.1, fun fuel cs x hx h β B => ?_⟩
  obtain ⟨a, h', β', vs, g1, g2, g3⟩ := r.2 fuel cs x hx h β B
  exact ⟨g a, h', β', vs, g1, g2, by rw [hc]; exact g3⟩
variable (en P W base held) in
/-- Fields, one behind the other. -/
def RdF (fs : List Field) (off : Nat) (α : Type) [El α] : Prop :=
  ∀ (n : Nat) (cs : List Value) (xs : List (DataW H × List MemPlace)), xs.length = fs.length → off + El.sz α ≤ cs.length →
    (∀ (i : Nat) (f : Field), fs[i]? = some f → DataW.trod en P W base (fun _ => true) held n f.type ((cs.drop f.offset).take (P.cellsOf f.type)) = xs[i]?) →
    ∀ (h : AH) (β : Bij), Base P W h β → ∃ (a : α) (h' : AH) (β' : Bij) (vs : List Value), Base P W h' β' ∧ Onto h β h' β' ∧ Got h' β' vs ((cs.drop off).take (El.sz α)) (El.cells a)
theorem RdF.last {f : Field} {off : Nat} {α : Type} [El α] (ho : f.offset = off) (hr : Rd en P W base held f.type α) : RdF en P W base held [f] off α := by
  intro n cs xs hx hl hf h β B
  obtain ⟨x, rfl⟩ : ∃ x, xs = [x] := by
    match xs, hx with | [x], _ => exact ⟨x, rfl⟩
  have h0 := hf 0 f rfl
  rw [ho, hr.1] at h0
  exact hr.2 n _ x h0 h β B
theorem RdF.cons {f : Field} {fs : List Field} {off : Nat} {α δ : Type} [El α] [El δ] (ho : f.offset = off) (hr : Rd en P W base held f.type α) (hs : RdF en P W base held fs (off + El.sz α) δ) : RdF en P W base held (f :: fs) off (Cat α δ) := by
  intro n cs xs hx hl hf h β B
  obtain ⟨x, xs', rfl⟩ : ∃ x xs', xs = x :: xs' := by
    match xs, hx with | x :: xs', _ => exact ⟨x, xs', rfl⟩
  have hz : El.sz (Cat α δ) = El.sz α + El.sz δ := rfl
  rw [hz] at hl
  have h0 := hf 0 f rfl
  rw [ho, hr.1] at h0
  obtain ⟨a, h1, β1, v1, B1, o1, g1⟩ := hr.2 n _ x h0 h β B
  obtain ⟨b, h2, β2, v2, B2, o2, g2⟩ := hs n cs xs' (by simpa using hx) (by omega) (fun i f' hi => by have := hf (i + 1) f' (by simpa using hi); simpa using this) h1 β1 B1
  refine ⟨⟨a, b⟩, h2, β2, v1 ++ v2, B2, o1.trans o2, ?_⟩
  have e : (cs.drop off).take (El.sz (Cat α δ)) = (cs.drop off).take (El.sz α) ++ (cs.drop (off + El.sz α)).take (El.sz δ) := by
    rw [hz, List.take_add, List.drop_drop]
  rw [e]
  exact (g1.up o2).append g2
theorem Rd.struct {t : TypeId} {fs : Array Field} {α : Type} [El α] (ht : P.underlying t = some (.struct fs)) (hc : P.cellsOf t = El.sz α) (hf : RdF en P W base held fs.toList 0 α) : Rd en P W base held t α := by
  refine ⟨hc, fun fuel cs x hx h β B => ?_⟩
  obtain ⟨xs, n, _, rfl, hl, hlen, hg⟩ := DataW.trod_struct ht hx
  rw [hc] at hl
  obtain ⟨a, h', β', vs, g1, g2, g3⟩ := hf n cs xs (by simpa using hlen) (by omega) (fun i f hi => hg i f (by simpa using hi)) h β B
  refine ⟨a, h', β', vs, g1, g2, ?_⟩
  rw [List.drop_zero, List.take_of_length_le (by omega)] at g3
  exact g3
theorem Rd.arr {t e n : Nat} {α : Type} [El α] (ht : P.underlying t = some (.array n e)) (hc : P.cellsOf t = n * El.sz α) (hr : Rd en P W base held e α) : Rd en P W base held t (Arr n α) := by
  refine ⟨hc, fun fuel cs x hx h β B => ?_⟩
  obtain ⟨xs, m, _, rfl, hl, hlen, hf⟩ := DataW.trod_array ht hx
  rw [hc] at hl
  have key : ∀ k, k ≤ n → ∃ (l : List α) (h' : AH) (β' : Bij) (vs : List Value), l.length = k ∧ Base P W h' β' ∧ Onto h β h' β' ∧ Got h' β' vs (cs.take (k * El.sz α)) (encL l) := by
    intro k
    induction k with
    | zero => intro _; exact ⟨[], h, β, [], rfl, B, .refl h β, by simpa using Got.nil h β⟩
    | succ k ih =>
      intro hk
      obtain ⟨l, h1, β1, v1, e1, B1, o1, g1⟩ := ih (by omega)
      have h3 := hf k (by omega)
      rw [hr.1] at h3
      have hxk : k < xs.length := by omega
      rw [List.getElem?_eq_getElem hxk] at h3
      obtain ⟨a, h2, β2, v2, B2, o2, g2⟩ := hr.2 m _ _ h3 h1 β1 B1
      refine ⟨l ++ [a], h2, β2, v1 ++ v2, by simp [e1], B2, o1.trans o2, ?_⟩
      have e : cs.take ((k + 1) * El.sz α) = cs.take (k * El.sz α) ++ (cs.drop (k * El.sz α)).take (El.sz α) := by
        rw [Nat.add_mul, Nat.one_mul, List.take_add]
      rw [e, ← encL_snoc]
      exact (g1.up o2).append g2
  obtain ⟨l, h', β', vs, e1, B1, o1, g1⟩ := key n (Nat.le_refl _)
  rw [List.take_of_length_le (by omega)] at g1
  exact ⟨⟨l, e1⟩, h', β', vs, B1, o1, g1⟩
end
end Go.RS

/- The value machine: inputs that lie in a real heap, and how great they are. -/
namespace Go.RS
open Go Go.ChangeShapes Go.WideShapes
open Go.RS.Enc (enc dec)
section
variable {H : Type} (en : TypeId × Value → H) (P : Program) (W : World) (base : Nat) (held : Bool)
/-- Data of a type, read from a real heap, as a value of Lean, of which 'D' holds. -/
def Rk (t : TypeId) (α : Type) [El α] (D : α → Prop) : Prop := P.cellsOf t = El.sz α ∧ ∀ (fuel : Nat) (cs : List Value) (x : DataW H × List MemPlace), DataW.trod en P W base (fun _ => true) held fuel t cs = some x →
  (∀ w ∈ x.1.weights P t, w ≤ reachBytes) → ∀ (h : AH) (β : Bij), Base P W h β → ∃ (a : α) (h' : AH) (β' : Bij) (vs : List Value), D a ∧ Base P W h' β' ∧ Onto h β h' β' ∧ Got h' β' vs cs (El.cells a)
end
def intOk (n : Int) : Prop := -9223372036854775808 ≤ n ∧ n < 9223372036854775808
def strOk (s : ByteArray) : Prop := s.size ≤ 140737488351232
def listOk {α : Type} (bytes : Nat) (D : α → Prop) (l : List α) : Prop := l.length * bytes ≤ 140737488351232 ∧ l.length < 9223372036854775808 ∧ ∀ x ∈ l, D x
section
variable {H : Type} {en : TypeId × Value → H} {P : Program} {W : World} {base : Nat} {held : Bool}
theorem weightsAll_mem {e : TypeId} {d : DataW H} : ∀ {l : List (DataW H)}, d ∈ l → ∀ w ∈ d.weights P e, w ∈ DataW.weightsAll P e l
  | [], h, _, _ => by cases h
  | x :: l, h, w, hw => by
    unfold DataW.weightsAll
    rcases List.mem_cons.1 h with rfl | h
    · exact List.mem_append_left _ hw
    · exact List.mem_append_right _ (weightsAll_mem h w hw)
theorem weightsEach_mem {t : TypeId} {d : DataW H} : ∀ {ts : List TypeId} {l : List (DataW H)} {i : Nat}, ts[i]? = some t → l[i]? = some d → ∀ w ∈ d.weights P t, w ∈ DataW.weightsEach P ts l
  | [], _, _, h, _, _, _ => by simp at h
  | _ :: _, [], _, _, h, _, _ => by simp at h
  | u :: ts, x :: l, 0, h1, h2, w, hw => by
    simp at h1 h2; subst h1 h2
    unfold DataW.weightsEach
    exact List.mem_append_left _ hw
  | u :: ts, x :: l, i + 1, h1, h2, w, hw => by
    simp at h1 h2
    unfold DataW.weightsEach
    exact List.mem_append_right _ (weightsEach_mem h1 h2 w hw)
theorem Rk.int {t : TypeId} (ht : P.underlying t = some (.int .i64)) (hc : P.cellsOf t = 1) : Rk en P W base held t Int intOk := by
  refine ⟨hc, fun fuel cs x hx _ h β B => ?_⟩
  obtain ⟨n, rfl, _, hwf⟩ := DataW.trod_int ht hx
  refine ⟨n, h, β, [.int .i64 n], ?_, B, .refl h β, .one (.int _ _) (.int _ _)⟩
  simp only [Lit.wf, Bool.and_eq_true, decide_eq_true_eq] at hwf
  have e1 : IntKind.i64.min = -9223372036854775808 := by decide
  have e2 : IntKind.i64.max = 9223372036854775807 := by decide
  unfold intOk; omega
theorem Rk.str {t : TypeId} (ht : P.underlying t = some .string) (hc : P.cellsOf t = 1) : Rk en P W base held t ByteArray strOk := by
  refine ⟨hc, fun fuel cs x hx hw h β B => ?_⟩
  obtain ⟨s, rfl, rfl, _⟩ := DataW.trod_string ht hx
  refine ⟨s, h, β, [.string s], ?_, B, .refl h β, .one (.string _) (.str _)⟩
  have := hw s.size (by simp [DataW.weights])
  unfold strOk
  unfold reachBytes at this
  exact this
theorem Rk.map {t : TypeId} {α δ : Type} [El α] [El δ] {D : α → Prop} {D' : δ → Prop} (g : α → δ) (hz : El.sz δ = El.sz α) (hc : ∀ a, El.cells (g a) = El.cells a) (hd : ∀ a, D a → D' (g a)) (r : Rk en P W base held t α D) : Rk en P W base held t δ D' := by
  refine ⟨by rw [hz]; exact r.1, fun fuel cs x hx hw h β B => ?_⟩
  obtain ⟨a, h', β', vs, g0, g1, g2, g3⟩ := r.2 fuel cs x hx hw h β B
  exact ⟨g a, h', β', vs, hd a g0, g1, g2, by rw [hc]; exact g3⟩
theorem Rk.bool {t : TypeId} (ht : P.underlying t = some .bool) (hc : P.cellsOf t = 1) : Rk en P W base held t Bool (fun _ => True) := by
  refine ⟨hc, fun fuel cs x hx _ h β B => ?_⟩
  obtain ⟨n, rfl, _⟩ := DataW.trod_bool ht hx
  exact ⟨n, h, β, [.bool n], trivial, B, .refl h β, .one (.bool _) (.bool _)⟩
theorem Rk.mapTo {t : TypeId} {α δ : Type} [El α] [El δ] {D : α → Prop} {D' : δ → Prop} (r : Rk en P W base held t α D) (g : α → δ) (hz : El.sz δ = El.sz α) (hc : ∀ a, El.cells (g a) = El.cells a) (hd : ∀ a, D a → D' (g a)) : Rk en P W base held t δ D' := .map g hz hc hd r
theorem Rk.list {t e : TypeId} {α : Type} [El α] {D : α → Prop} (ht : P.underlying t = some (.slice e)) (hc : P.cellsOf t = 1) (hz : 0 < El.sz α) (hr : Rk en P W base held e α D) : Rk en P W base held t (List α) (listOk (P.bytesOf e) D) := by
  obtain ⟨hce, hr⟩ := hr
  refine ⟨hc, fun fuel cs x hx hwt h β B => ?_⟩
  rcases DataW.trod_slice ht hx with ⟨rfl, _⟩ | ⟨a, len, cap, elems, rest, n, _, rfl, hx2, hb, hlc, hcm, hel, helem, hrest, _⟩
  · exact ⟨[], h, β, [.slice none 0 0], ⟨by simp, by simp, by simp⟩, B, .refl h β, .one (.sl0 0 0) (.lst0 false _)⟩
  · obtain ⟨hrl, hrg⟩ := hrest rfl
    have hwx : ∀ w ∈ (DataW.slice (elems.map (·.1)) (rest.map (·.1))).weights P t, w ≤ reachBytes := by rw [hx2] at hwt; exact hwt
    have hwl : len * P.bytesOf e ≤ 140737488351232 := by
      have := hwx ((elems.length + rest.length) * P.bytesOf e) (by unfold DataW.weights; rw [ht]; simp)
      have h2 : len * P.bytesOf e ≤ (elems.length + rest.length) * P.bytesOf e := Nat.mul_le_mul_right _ (by omega)
      unfold reachBytes at this; omega
    have hwe : ∀ d ∈ elems, ∀ w ∈ d.1.weights P e, w ≤ reachBytes := fun d hd w hw => hwx w (by
      unfold DataW.weights; rw [ht]
      exact List.mem_cons_of_mem _ (List.mem_append_left _ (weightsAll_mem (List.mem_map.2 ⟨d, hd, rfl⟩) w hw)))
    rw [hce] at helem hrg
    by_cases hcap : cap = 0
    · subst hcap
      obtain rfl : len = 0 := by omega
      obtain ⟨c, hc0⟩ := B.c0
      have h0 := (Array.getElem?_eq_some_iff.1 hc0).1
      exact ⟨[], h, β, [.slice (some ⟨0, 0, none⟩) 0 0], ⟨by simp, by simp, by simp⟩, B, .refl h β, .one (.sle _ _) (.lst (c' := []) (by simp) h0 hc0 (Nat.zero_le _) (by simp) rfl (fun i v v' x => by simp at x) (by simp) (Nat.le_refl _) (fun hx => by cases hx) (fun hx => by simp [openCap] at hx))⟩
    · -- the first element lies there
      have hfirst : ∃ v0, W.cell? a = some v0 := by
        have key : ∀ (l : List (DataW H × List MemPlace)) (i : Nat), 0 < l.length → (W.cells? base (a.add 0) (El.sz α)).bind (DataW.trod en P W base (fun _ => true) held n e) = l[0]? → ∃ v0, W.cell? a = some v0 := by
          intro l i hl hg
          rw [List.getElem?_eq_getElem hl, Option.bind_eq_some_iff] at hg
          obtain ⟨cs0, g1, _⟩ := hg
          obtain ⟨g2, g3⟩ := cells_at g1
          have := g3 0 hz
          rw [List.getElem?_eq_getElem (by omega)] at this
          exact ⟨_, this⟩
        by_cases hl0 : 0 < len
        · exact key elems 0 (by omega) (by simpa using helem 0 hl0)
        · obtain rfl : len = 0 := by omega
          exact key rest 0 (by omega) (by simpa using hrg 0 (by omega))
      obtain ⟨v0, hv0⟩ := hfirst
      obtain ⟨hsp, c', ty, fz, hW, _⟩ := cell_at hv0
      have haddr : ∀ i j, (a.add i).add j = ⟨a.block, a.off + i + j, none⟩ := by
        intro i j
        obtain ⟨ab, ao, as⟩ := a
        simp only at hsp; subst hsp
        unfold Addr.add
        split <;> split <;> simp_all
      have cellv : ∀ i j, W.cell? ((a.add i).add j) = c'[a.off + i + j]? := by
        intro i j
        rw [haddr]
        unfold World.cell?
        rw [hW]; rfl
      have build : ∀ k, k ≤ len → ∃ (l : List α) (h' : AH) (β' : Bij) (vs rs : List Value), (∀ x ∈ l, D x) ∧ l.length = k ∧ rs.length = k * El.sz α ∧ (∀ j, j < k * El.sz α → c'[a.off + j]? = rs[j]?) ∧ Base P W h' β' ∧ Onto h β h' β' ∧ Got h' β' vs rs (encL l) := by
        intro k
        induction k with
        | zero => intro _; exact ⟨[], h, β, [], [], by simp, rfl, by simp, fun j hj => by omega, B, .refl h β, .nil h β⟩
        | succ k ih =>
          intro hk
          obtain ⟨l, h', β', vs, rs, g0, g1, g2, g3, g4, g5, g6⟩ := ih (by omega)
          have he := helem k (by omega)
          have hkl : k < elems.length := by omega
          rw [List.getElem?_eq_getElem hkl, Option.bind_eq_some_iff] at he
          obtain ⟨cs1, q1, q2⟩ := he
          obtain ⟨q3, q4⟩ := cells_at q1
          obtain ⟨x1, h2, β2, vs1, r0, r1, r2, r3⟩ := hr n cs1 _ q2 (hwe _ (List.getElem_mem hkl)) h' β' g4
          refine ⟨l ++ [x1], h2, β2, vs ++ vs1, rs ++ cs1, fun x hx => by
            rcases List.mem_append.1 hx with hx | hx
            · exact g0 x hx
            · rw [List.mem_singleton] at hx; rw [hx]; exact r0, by simp [g1], by simp [g2, q3, Nat.add_mul], fun j hj => ?_, r1, g5.trans r2, ?_⟩
          · by_cases hjk : j < k * El.sz α
            · rw [List.getElem?_append_left (by omega)]; exact g3 j hjk
            · rw [List.getElem?_append_right (by omega), g2]
              have hs1 : j - k * El.sz α < El.sz α := by rw [Nat.add_mul] at hj; omega
              rw [← q4 _ hs1, cellv]
              congr 1
              omega
          · rw [← encL_snoc]
            exact (g6.up r2).append r3
      obtain ⟨l, h', β', vs, rs, g0, g1, g2, g3, g4, g5, g6⟩ := build len (Nat.le_refl _)
      have hop : openCap = 18446744073709551616 := rfl
      have hml : maxLen = 9223372036854775807 := rfl
      obtain ⟨p1, p2⟩ := g4.push (cs := vs) (off := a.off) hW fun i v hi => by
        obtain ⟨v', k1, k2⟩ := g6.1.get hi
        have hlt : i < rs.length := (List.getElem?_eq_some_iff.1 k1).1
        exact ⟨v', by rw [g3 i (by omega)]; exact k1, k2⟩
      have hvl : vs.length = (encL l).length := g6.2.1.symm
      refine ⟨l, _, _, [.slice (some ⟨h'.size, 0, none⟩) len openCap], ⟨by rw [g1]; exact hwl, by omega, g0⟩, p1, g5.trans p2, .one (.sl ⟨rfl, hsp, (a.off, c'.size), bset_same _ _ _, by simp⟩ ⟨by omega, .inr ⟨0, rfl, hlc, fun hx => by omega⟩⟩) ?_⟩
      subst g1
      exact .lst (c := vs) (c' := vs) (by simp) (by simp) (Array.getElem?_push_size) (Nat.zero_le _) (by rw [List.drop_zero, ← hvl, List.take_length]) hvl (fun i v v' x y => (g6.up p2).2.2 i v v' x y) (by omega) (by omega) (fun hx => by cases hx) (fun hx => by omega)
variable (en P W base held) in
/-- Fields, one behind the other. -/
def RkF (fs : List Field) (off : Nat) (α : Type) [El α] (D : α → Prop) : Prop :=
  ∀ (n : Nat) (cs : List Value) (xs : List (DataW H × List MemPlace)), xs.length = fs.length → off + El.sz α ≤ cs.length →
    (∀ (i : Nat) (f : Field), fs[i]? = some f → DataW.trod en P W base (fun _ => true) held n f.type ((cs.drop f.offset).take (P.cellsOf f.type)) = xs[i]?) →
    (∀ (i : Nat) (f : Field) (x : DataW H × List MemPlace), fs[i]? = some f → xs[i]? = some x → ∀ w ∈ x.1.weights P f.type, w ≤ reachBytes) →
    ∀ (h : AH) (β : Bij), Base P W h β → ∃ (a : α) (h' : AH) (β' : Bij) (vs : List Value), D a ∧ Base P W h' β' ∧ Onto h β h' β' ∧ Got h' β' vs ((cs.drop off).take (El.sz α)) (El.cells a)
theorem RkF.last {f : Field} {off : Nat} {α : Type} [El α] {D : α → Prop} (ho : f.offset = off) (hr : Rk en P W base held f.type α D) : RkF en P W base held [f] off α D := by
  intro n cs xs hx hl hf hw h β B
  obtain ⟨x, rfl⟩ : ∃ x, xs = [x] := by
    match xs, hx with | [x], _ => exact ⟨x, rfl⟩
  have h0 := hf 0 f rfl
  rw [ho, hr.1] at h0
  exact hr.2 n _ x h0 (hw 0 f x rfl rfl) h β B
theorem RkF.cons {f : Field} {fs : List Field} {off : Nat} {α δ : Type} [El α] [El δ] {D : α → Prop} {D2 : δ → Prop} (ho : f.offset = off) (hr : Rk en P W base held f.type α D) (hs : RkF en P W base held fs (off + El.sz α) δ D2) : RkF en P W base held (f :: fs) off (Cat α δ) (fun x => D x.a ∧ D2 x.b) := by
  intro n cs xs hx hl hf hw h β B
  obtain ⟨x, xs', rfl⟩ : ∃ x xs', xs = x :: xs' := by
    match xs, hx with | x :: xs', _ => exact ⟨x, xs', rfl⟩
  have hz : El.sz (Cat α δ) = El.sz α + El.sz δ := rfl
  rw [hz] at hl
  have h0 := hf 0 f rfl
  rw [ho, hr.1] at h0
  obtain ⟨a, h1, β1, v1, d1, B1, o1, g1⟩ := hr.2 n _ x h0 (hw 0 f x rfl rfl) h β B
  obtain ⟨b, h2, β2, v2, d2, B2, o2, g2⟩ := hs n cs xs' (by simpa using hx) (by omega) (fun i f' hi => by have := hf (i + 1) f' (by simpa using hi); simpa using this) (fun i f' y h1 h2 => hw (i + 1) f' y (by simpa using h1) (by simpa using h2)) h1 β1 B1
  refine ⟨⟨a, b⟩, h2, β2, v1 ++ v2, ⟨d1, d2⟩, B2, o1.trans o2, ?_⟩
  have e : (cs.drop off).take (El.sz (Cat α δ)) = (cs.drop off).take (El.sz α) ++ (cs.drop (off + El.sz α)).take (El.sz δ) := by
    rw [hz, List.take_add, List.drop_drop]
  rw [e]
  exact (g1.up o2).append g2
theorem Rk.struct {t : TypeId} {fs : Array Field} {α : Type} [El α] {D : α → Prop} (ht : P.underlying t = some (.struct fs)) (hc : P.cellsOf t = El.sz α) (hf : RkF en P W base held fs.toList 0 α D) : Rk en P W base held t α D := by
  refine ⟨hc, fun fuel cs x hx hw h β B => ?_⟩
  obtain ⟨xs, n, _, rfl, hl, hlen, hg⟩ := DataW.trod_struct ht hx
  rw [hc] at hl
  obtain ⟨a, h', β', vs, g0, g1, g2, g3⟩ := hf n cs xs (by simpa using hlen) (by omega) (fun i f hi => hg i f (by simpa using hi)) (fun i f y h1 h2 w hm => hw w (by
    unfold DataW.weights; rw [ht]
    exact weightsEach_mem (i := i) (by rw [List.getElem?_map, h1]; rfl) (by rw [List.getElem?_map, h2]; rfl) w hm)) h β B
  refine ⟨a, h', β', vs, g0, g1, g2, ?_⟩
  rw [List.drop_zero, List.take_of_length_le (by omega)] at g3
  exact g3
theorem Rk.arr {t e n : Nat} {α : Type} [El α] {D : α → Prop} (ht : P.underlying t = some (.array n e)) (hc : P.cellsOf t = n * El.sz α) (hr : Rk en P W base held e α D) : Rk en P W base held t (Arr n α) (fun a => ∀ x ∈ a.l, D x) := by
  refine ⟨hc, fun fuel cs x hx hw h β B => ?_⟩
  obtain ⟨xs, m, _, rfl, hl, hlen, hf⟩ := DataW.trod_array ht hx
  rw [hc] at hl
  have key : ∀ k, k ≤ n → ∃ (l : List α) (h' : AH) (β' : Bij) (vs : List Value), (∀ x ∈ l, D x) ∧ l.length = k ∧ Base P W h' β' ∧ Onto h β h' β' ∧ Got h' β' vs (cs.take (k * El.sz α)) (encL l) := by
    intro k
    induction k with
    | zero => intro _; exact ⟨[], h, β, [], by simp, rfl, B, .refl h β, by simpa using Got.nil h β⟩
    | succ k ih =>
      intro hk
      obtain ⟨l, h1, β1, v1, d1, e1, B1, o1, g1⟩ := ih (by omega)
      have h3 := hf k (by omega)
      rw [hr.1] at h3
      have hxk : k < xs.length := by omega
      rw [List.getElem?_eq_getElem hxk] at h3
      obtain ⟨a, h2, β2, v2, d2, B2, o2, g2⟩ := hr.2 m _ _ h3 (fun w hm => hw w (by
        unfold DataW.weights; rw [ht]
        exact weightsAll_mem (List.mem_map.2 ⟨_, List.getElem_mem hxk, rfl⟩) w hm)) h1 β1 B1
      refine ⟨l ++ [a], h2, β2, v1 ++ v2, fun x hx => by
        rcases List.mem_append.1 hx with hx | hx
        · exact d1 x hx
        · rw [List.mem_singleton] at hx; rw [hx]; exact d2, by simp [e1], B2, o1.trans o2, ?_⟩
      have e : cs.take ((k + 1) * El.sz α) = cs.take (k * El.sz α) ++ (cs.drop (k * El.sz α)).take (El.sz α) := by
        rw [Nat.add_mul, Nat.one_mul, List.take_add]
      rw [e, ← encL_snoc]
      exact (g1.up o2).append g2
  obtain ⟨l, h', β', vs, d1, e1, B1, o1, g1⟩ := key n (Nat.le_refl _)
  rw [List.take_of_length_le (by omega)] at g1
  exact ⟨⟨l, e1⟩, h', β', vs, d1, B1, o1, g1⟩
end
end Go.RS

/- The value machine: loops whose end is one of many; cuts that keep all. -/
namespace Go.RS
open Go
open Go.RS.Enc (enc dec)
section
variable {E : VEnv} {k : Nat} {fr : VFr} {M : VM} {Q : AExit → VFr → VM → Prop}
/-- What a loop ends with: at 'id' so much is known, for some x. -/
def LoopE {ι : Type} (k id : Nat) (l : ι → List (Nat × PV)) (M' : ι → VM) (P : ι → Prop) (Q : AExit → VFr → VM → Prop) (e : AExit) (f : VFr) (m : VM) : Prop := match e with
  | .exit i => if i = id then ∃ x, P x ∧ Cut k f m (l x) (M' x) else Q (.exit i) f m
  | e => Q e f m
@[simp] theorem LoopE_exit {ι : Type} (id i : Nat) (l : ι → List (Nat × PV)) (M' : ι → VM) (P : ι → Prop) (f : VFr) (m : VM) : LoopE k id l M' P Q (.exit i) f m = if i = id then ∃ x, P x ∧ Cut k f m (l x) (M' x) else Q (.exit i) f m := rfl
@[simp] theorem LoopE_ret {ι : Type} (id : Nat) (l : ι → List (Nat × PV)) (M' : ι → VM) (P : ι → Prop) (f : VFr) (m : VM) : LoopE k id l M' P Q .ret f m = Q .ret f m := rfl
@[simp] theorem LoopE_normal {ι : Type} (id : Nat) (l : ι → List (Nat × PV)) (M' : ι → VM) (P : ι → Prop) (f : VFr) (m : VM) : LoopE k id l M' P Q .normal f m = Q .normal f m := rfl
theorem VW.loop_toE {ι : Type} {c : ACode} (id : Nat) (l : ι → List (Nat × PV)) (M' : ι → VM) (P : ι → Prop) (hl : VW E k (.loop c) fr M (LoopE k id l M' P Q)) (hn : ∀ x, P x → ∀ f m, Cut k f m (l x) (M' x) → Q (.exit id) f m) : VW E k (.loop c) fr M Q :=
  hl.mono fun e f m hx => by
    cases e with
    | exit i =>
      rw [LoopE_exit] at hx
      split at hx
      · rename_i h; subst h; obtain ⟨x, h1, h2⟩ := hx; exact hn x h1 f m h2
      · exact hx
    | normal => exact hx
    | ret => exact hx
/-- Two ways to the same. -/
theorem VW.either {c : ACode} {f' : VFr} {m' : VM} {A B : Prop} (h : A ∨ B) (ha : A → VW E k c f' m' Q → VW E k c fr M Q) (hb : B → VW E k c f' m' Q → VW E k c fr M Q) (hw : VW E k c f' m' Q) : VW E k c fr M Q := by
  rcases h with h | h
  · exact ha h hw
  · exact hb h hw
theorem cut_all {f : VFr} {l : List (Nat × PV)} {m : VM} (hk : k ≤ m.length) (hu : ∀ o ∈ m, o.und m.length) (hs : ∀ p ∈ l, (f p.1).le p.2 ∧ p.2.und m.length = true) : Cut k f m l m :=
  ⟨m.length, [], by rw [forgetL_nil, List.take_length], hk, Nat.le_refl _, hs, by rw [forgetL_nil, List.take_length]; exact hu⟩
theorem cut_pre' {f : VFr} {l : List (Nat × PV)} {pre ext : VM} {n : Nat} (hn : pre.length = n) (hk : k ≤ n) (hu : ∀ o ∈ pre, o.und n) (hs : ∀ p ∈ l, (f p.1).le p.2 ∧ p.2.und n = true) : Cut k f (pre ++ ext) l pre := by
  subst hn
  have e : pre = (forgetL [] (pre ++ ext)).take pre.length := by rw [forgetL_nil, List.take_left]
  exact ⟨pre.length, [], e, hk, by simp, hs, by rw [← e]; exact hu⟩
end
theorem set_und {M : VM} {n t : Nat} {o : VObj} (hu : ∀ o ∈ M, o.und n) (ho : o.und n) : ∀ x ∈ M.set t o, x.und n := fun x hx => by
  rcases List.mem_or_eq_of_mem_set hx with h | rfl
  · exact hu x h
  · exact ho
theorem set_get_same {α : Type} {M : List α} {t : Nat} {o : α} (h : M[t]? = some o) : M.set t o = M := by
  apply List.ext_getElem?
  intro i
  rw [List.getElem?_set]
  split
  · rename_i he; subst he; rw [h]; simp [(List.getElem?_eq_some_iff.1 h).1]
  · rfl
end Go.RS

/- The value machine: maps that remember answers. -/
namespace Go.RS
open Go
open Go.RS.Enc (enc dec)
/-- Each entry is a key that is meant, with a value that is right for it. -/
def MapOk {κ : Type} (kf : κ → PV) (R : κ → PV → Prop) (es : List (PV × PV × Nat)) : Prop := ∀ e ∈ es, ∃ a, e.1 = kf a ∧ R a e.2.1
section
variable {κ : Type} [DecidableEq κ] {s : KS} {kf : κ → PV} {R : κ → PV → Prop}
theorem mapOk_nil : MapOk kf R [] := fun e he => by cases he
theorem find_good (hk : ∀ a b, keyEqV s (kf a) (kf b) = some (decide (a = b))) (x : κ) : ∀ (es : List (PV × PV × Nat)) (j : Nat), MapOk kf R es →
    (findKV s (kf x) es j = some none ∧ ∀ e ∈ es, e.1 ≠ kf x) ∨ ∃ i v, findKV s (kf x) es j = some (some (i, v)) ∧ R x v
  | [], j, _ => .inl ⟨rfl, by simp⟩
  | e :: es, j, h => by
    obtain ⟨a, ha, hr⟩ := h e (by simp)
    have hs : MapOk kf R es := fun e he => h e (by simp [he])
    rw [findKV, ha, hk]
    by_cases hx : x = a
    · subst hx
      right
      exact ⟨j, e.2.1, by simp, hr⟩
    · rw [decide_eq_false hx]
      simp only
      rcases find_good hk x es (j + 1) hs with ⟨h1, h2⟩ | h1
      · left
        refine ⟨h1, fun e' he' => ?_⟩
        rcases List.mem_cons.1 he' with rfl | he'
        · rw [ha]
          intro he
          have h3 := hk x a
          rw [he, hk x x] at h3
          simp [hx] at h3
        · exact h2 _ he'
      · exact .inr h1
theorem find_has (hk : ∀ a b, keyEqV s (kf a) (kf b) = some (decide (a = b))) (x : κ) (es : List (PV × PV × Nat)) (j : Nat) (h : MapOk kf R es) (hx : ∃ e ∈ es, e.1 = kf x) : ∃ i v, findKV s (kf x) es j = some (some (i, v)) ∧ R x v := by
  rcases find_good (R := R) hk x es j h with ⟨_, h2⟩ | h1
  · obtain ⟨e, he, hk⟩ := hx
    exact absurd hk (h2 e he)
  · exact h1
theorem mapOk_add {es : List (PV × PV × Nat)} (h : MapOk kf R es) (a : κ) {v : PV} (hv : R a v) (n : Nat) : MapOk kf R (es ++ [(kf a, v, n)]) := fun e he => by
  rcases List.mem_append.1 he with he | he
  · exact h e he
  · rw [List.mem_singleton] at he; subst he; exact ⟨a, rfl, hv⟩
theorem mapOk_mod {es : List (PV × PV × Nat)} (h : MapOk kf R es) (a : κ) {v : PV} (hv : R a v) (i : Nat) : MapOk kf R (es.modify i fun e => (kf a, v, e.2.2)) := fun e he => by
  obtain ⟨j, hj, rfl⟩ := List.getElem_of_mem he
  rw [List.getElem_modify]
  split
  · exact ⟨a, rfl, hv⟩
  · exact h _ (List.getElem_mem _)
theorem mem_mod {es : List (PV × PV × Nat)} {x : PV} (h : ∃ e ∈ es, e.1 = x) {k v : PV} {i : Nat} {w : PV} {s : KS} (hf : findKV s k es 0 = some (some (i, w))) (hk : ∀ e ∈ es, keyEqV s k e.1 = some true → e.1 = k) : ∃ e ∈ (es.modify i fun e => (k, v, e.2.2)), e.1 = x := by
  obtain ⟨e, he, hx⟩ := h
  obtain ⟨j, hj, rfl⟩ := List.getElem_of_mem he
  have hg : ∀ (es : List (PV × PV × Nat)) (o : Nat), findKV s k es o = some (some (i, w)) → ∃ q, i = o + q ∧ ∃ hq : q < es.length, keyEqV s k es[q].1 = some true := by
    intro es
    induction es with
    | nil => intro o h; cases h
    | cons a es ih =>
      intro o h
      rw [findKV] at h
      split at h
      · rename_i ht
        cases h
        exact ⟨0, rfl, by simp, ht⟩
      · obtain ⟨q, h1, h2, h3⟩ := ih (o + 1) h
        exact ⟨q + 1, by omega, by simpa using h2, by simpa using h3⟩
      · cases h
  obtain ⟨q, h1, h2, h3⟩ := hg es 0 hf
  have hqi : q = i := by omega
  subst hqi
  refine ⟨(es.modify q fun e => (k, v, e.2.2))[j]'(by simpa using hj), List.getElem_mem _, ?_⟩
  rw [List.getElem_modify]
  split
  · rename_i hij
    subst hij
    rw [← hx, ← hk _ (List.getElem_mem _) h3]
  · exact hx
end
/-! ### Slices of structs that are written -/
end Go.RS

