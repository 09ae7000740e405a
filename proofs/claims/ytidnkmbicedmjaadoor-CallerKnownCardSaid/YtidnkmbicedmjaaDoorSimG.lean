/- Each operation of the abstract machine is followed by the real one (5). -/
import Derived.Test.YtidnkmbicedmjaaDoorSimF
import Derived.Laws.Slices
namespace Go.RS
open Go

section
variable {P : Program} {lo n0 : Nat} {β : Bij} {h h1 : AH} {w : World} {fr : Fr} {a : Act}

theorem equal_slice {t e : TypeId} (hd : P.underlying t = some (.slice e)) {u v : Value} {b : Bool} (he : eqNilA .slice u v = some b) (d : Nat) (w : World) : (Op.equalIn (d + 1) t u v).run P w = .ok b w := by
  cases u <;> (try (simp [eqNilA, isNil] at he; done))
  cases v <;> (try (simp [eqNilA, isNil] at he; done))
  rename_i x _ _ y _ _
  cases x <;> cases y <;> simp [eqNilA, isNil] at he <;> subst he <;> simp [Op.equalIn, run_underlying hd]
theorem equal_map {t k e : TypeId} (hd : P.underlying t = some (.map k e)) {u v : Value} {b : Bool} (he : eqNilA .map u v = some b) (d : Nat) (w : World) : (Op.equalIn (d + 1) t u v).run P w = .ok b w := by
  cases u <;> (try (simp [eqNilA, isNil] at he; done))
  cases v <;> (try (simp [eqNilA, isNil] at he; done))
  rename_i x y
  cases x <;> cases y <;> simp [eqNilA, isNil] at he <;> subst he <;> simp [Op.equalIn, run_underlying hd]
theorem equal_func {t : TypeId} {ps rs : Array TypeId} {vd : Bool} (hd : P.underlying t = some (.func ps rs vd)) {u v : Value} {b : Bool} (he : eqNilA .func u v = some b) (d : Nat) (w : World) : (Op.equalIn (d + 1) t u v).run P w = .ok b w := by
  cases u <;> (try (simp [eqNilA, isNil] at he; done)) <;> cases v <;> simp [eqNilA, isNil] at he <;> subst he <;> simp [Op.equalIn, run_underlying hd]
theorem equal_bool {t : TypeId} (hd : P.underlying t = some .bool) (x y : Bool) (d : Nat) (w : World) : (Op.equalIn (d + 1) t (.bool x) (.bool y)).run P w = .ok (x == y) w := by
  simp [Op.equalIn, run_underlying hd]

theorem eqNil_inv {k : EqK} {u v u' v' : Value} {b : Bool} (hu : VRel β u u') (hv : VRel β v v') (he : eqNilA k u v = some b) : eqNilA k u' v' = some b := by
  unfold eqNilA at he ⊢
  cases h1 : isNil k u with
  | none => simp [h1] at he
  | some x =>
    cases h2 : isNil k v with
    | none => simp [h1, h2] at he
    | some y => rw [isNil_inv hu h1, isNil_inv hv h2]; rw [h1, h2] at he; exact he

theorem bin_of_equal {neg : Bool} {t : TypeId} {x y : Operand} {u v : Value} {b : Bool} (hn : (match u with | .agg _ | .nilIface | .int _ _ | .float _ _ | .complex _ _ _ | .string _ => false | _ => true) = true)
    (he : (Op.equalIn (9999 + 1) t u v).run P w = .ok b w) :
    (do eqGuard (if neg then .neq else .eql) t x y u v; binOp (if neg then .neq else .eql) t u v : Sem Value).run P w = .ok (.bool (if neg then !b else b)) w := by
  have hg : ∀ op, (eqGuard op t x y u v).run P w = .ok () w := fun op => guard_run op t x y u v (by cases u <;> first | rfl | cases hn)
  have he' : (Op.equal t u v).run P w = .ok b w := he
  cases neg
  · simp only [Bool.false_eq_true, if_false, Sem.run_bind, hg, Result.andThen_ok]
    cases u <;> first | (cases hn; done) | (simp only [binOp, Sem.run_bind, he', Result.andThen_ok, Sem.run_pure])
  · simp only [if_true, Sem.run_bind, hg, Result.andThen_ok]
    cases u <;> first | (cases hn; done) | (simp only [binOp, Sem.run_bind, he', Result.andThen_ok, Sem.run_pure])

def eqKOk : EqK → TypeDesc → Bool
  | .slice, .slice _ | .map, .map _ _ | .func, .func _ _ _ => true
  | _, _ => false
theorem op_eqNil (R : HRel P lo n0 β h w) {k : EqK} {neg : Bool} {t : TypeId} {d : TypeDesc} {x y : Operand} (hd : P.underlying t = some d)
    (hk : eqKOk k d = true) {u v u' v' : Value} {b : Bool} (hu : VRel β u u') (hv : VRel β v v')
    (he : eqNilA k u v = some b) : VSim P lo n0 β h w (.bool (if neg then !b else b)) h ((do eqGuard (if neg then .neq else .eql) t x y u' v'; binOp (if neg then .neq else .eql) t u' v').run P w) := by
  have he' := eqNil_inv hu hv he
  refine .quiet R (.bool _) (bin_of_equal ?_ ?_)
  · cases k <;> cases u' <;> first | rfl | (simp [eqNilA, isNil] at he')
  · cases k <;> cases d <;> simp only [eqKOk, Bool.false_eq_true] at hk
    · exact equal_slice hd he' 9999 w
    · exact equal_map hd he' 9999 w
    · exact equal_func hd he' 9999 w
theorem op_eqBool (R : HRel P lo n0 β h w) {neg : Bool} {t : TypeId} {x y : Operand} (hd : P.underlying t = some .bool) {u v : Bool} {u' v' : Value} (hu : VRel β (.bool u) u') (hv : VRel β (.bool v) v') :
    VSim P lo n0 β h w (.bool (if neg then !(u == v) else u == v)) h ((do eqGuard (if neg then .neq else .eql) t x y u' v'; binOp (if neg then .neq else .eql) t u' v').run P w) := by
  rw [hu.bool_inv, hv.bool_inv]
  exact .quiet R (.bool _) (bin_of_equal rfl (equal_bool hd u v 9999 w))

theorem op_un (R : HRel P lo n0 β h w) {op : UnOp} {u u' r : Value} (hu : VRel β u u') (hr : unA op u = some r) : VSim P lo n0 β h w r h ((Op.unary op u').run P w) := by
  cases op <;> cases u <;> simp [unA] at hr
  · rw [hu.int_inv]; subst hr; exact .quiet R (.int _ _) (by simp [Op.unary, Op.intArith])
  · rw [hu.bool_inv]; subst hr; exact .quiet R (.bool _) (by simp [Op.unary])
theorem op_conv (R : HRel P lo n0 β h w) {s d : TypeId} {ks k : IntKind} (hs : P.underlying s = some (.int ks)) (hd : P.underlying d = some (.int k)) {k0 : IntKind} {n : Int} {u' : Value} (hu : VRel β (.int k0 n) u') :
    VSim P lo n0 β h w (.int k (k.wrap n)) h ((convert s d u').run P w) := by
  rw [hu.int_inv]
  refine .quiet R (.int _ _) ?_
  simp [convert, run_underlying hs, run_underlying hd, Conv.intToInt]

/-! ### Addresses, parts -/
theorem op_fieldAddr (R : HRel P lo n0 β h w) {s : TypeId} {fs : Array Field} {i : Nat} {f : Field} {n : Nat} (hs : P.underlying s = some (.struct fs)) (hf : fs[i]? = some f) (hn : szOf P f.type = some n) (hn0 : n ≠ 0)
    {x : Addr} {x' : Value} (hx : VRel β (.pointer (some x)) x') : VSim P lo n0 β h w (.pointer (some (x.add f.offset))) h ((Instr.fieldAt s x' i).run P w) := by
  obtain ⟨a', rfl, ha⟩ := hx.ptr_inv
  refine .quiet R (.ptr (ha.add _)) ?_
  simp only [Instr.fieldAt, Sem.run_bind, run_underlying hs, Result.andThen_ok, hf, sure_run, fieldPlace, szOf_run hn, hn0, if_false, Sem.run_pure]
theorem part_rel {t : TypeId} {agg : Option Nat} (ht : aggSz P t = some agg) {c c' : List Value} (hc : LRel β c c') {off : Nat} {v : Value} (hv : partL c off agg = some v) (w : World) :
    ∃ v', (part t c'.toArray off).run P w = .ok v' w ∧ VRel β v v' := by
  simp only [aggSz, Option.bind_eq_some_iff] at ht
  obtain ⟨d, hd, ht⟩ := ht
  simp only [part, Sem.run_bind, isAgg_run hd, Result.andThen_ok]
  split at ht
  · rename_i hag
    simp only [Option.map_eq_some_iff] at ht
    obtain ⟨n, hn, rfl⟩ := ht
    simp only [partL, Option.some.injEq] at hv; subst hv
    refine ⟨_, ?_, .agg' (x' := ((c'.drop off).take n).toArray) (by simpa using (hc.drop off).take n)⟩
    simp only [hag, if_true, Sem.run_bind, szOf_run hn, Result.andThen_ok, Sem.run_pure, ext_arr]
  · rename_i hag
    cases ht
    simp only [partL] at hv
    obtain ⟨v', h1, h2⟩ := hc.get hv
    refine ⟨v', ?_, h2⟩
    simp only [hag, Bool.false_eq_true, if_false, List.getElem?_toArray, h1, Sem.run_pure]
theorem op_part (R : HRel P lo n0 β h w) {t : TypeId} {fs : Array Field} {i : Nat} {f : Field} {agg : Option Nat} (hs : P.underlying t = some (.struct fs)) (hf : fs[i]? = some f) (ha : aggSz P f.type = some agg)
    {cs : Array Value} {v x' : Value} (hx : VRel β (.agg cs) x') (hv : partL cs.toList f.offset agg = some v) : VSim P lo n0 β h w v h ((Instr.field t x' i).run P w) := by
  obtain ⟨cs', rfl, hc⟩ := hx.agg_inv
  obtain ⟨v', h1, h2⟩ := part_rel ha hc hv w
  refine .quiet R h2 ?_
  simp only [Instr.field, Sem.run_bind, run_underlying hs, Result.andThen_ok, hf, asAgg, Sem.run_pure]
  simpa using h1
theorem op_indexA (R : HRel P lo n0 β h w) {t e : TypeId} {n s : Nat} {agg : Option Nat} (ht : P.underlying t = some (.array n e)) (hs : szOf P e = some s) (ha : aggSz P e = some agg)
    {cs : Array Value} {v x' i' : Value} {k : IntKind} {i : Int} (hx : VRel β (.agg cs) x') (hi : VRel β (.int k i) i') (h0 : 0 ≤ i ∧ i < n) (hv : partL cs.toList (i.toNat * s) agg = some v) :
    VSim P lo n0 β h w v h ((Instr.index t x' i').run P w) := by
  obtain ⟨cs', rfl, hc⟩ := hx.agg_inv
  rw [hi.int_inv]
  obtain ⟨v', h1, h2⟩ := part_rel ha hc hv w
  refine .quiet R h2 ?_
  simp only [Instr.index, asIntOf, Sem.run_bind, Sem.run_pure, run_underlying ht, Result.andThen_ok, h0, and_self, if_true, szOf_run hs]
  simpa using h1
theorem op_indexStr (R : HRel P lo n0 β h w) {t : TypeId} (ht : P.underlying t = some .string) {s : ByteArray} {x' i' : Value} {k : IntKind} {i : Int} {b : UInt8} (hx : VRel β (.string s) x') (hi : VRel β (.int k i) i')
    (h0 : 0 ≤ i) (hb : s[i.toNat]? = some b) : VSim P lo n0 β h w (.int .u8 b.toNat) h ((Instr.index t x' i').run P w) := by
  rw [hx.str_inv, hi.int_inv]
  refine .quiet R (.int _ _) ?_
  simp only [Instr.index, asIntOf, Sem.run_bind, Sem.run_pure, run_underlying ht, Result.andThen_ok, h0, if_true, hb]
theorem op_indexAddrA (R : HRel P lo n0 β h w) {t e : TypeId} {n s : Nat} (ht : P.underlying t = some (.array n e)) (hs : szOf P e = some s)
    {x : Addr} {x' i' : Value} {k : IntKind} {i : Int} (hx : VRel β (.pointer (some x)) x') (hi : VRel β (.int k i) i') (h0 : 0 ≤ i ∧ i < n) :
    VSim P lo n0 β h w (.pointer (some (x.add (i.toNat * s)))) h ((Instr.indexAt t x' i').run P w) := by
  obtain ⟨a', rfl, ha⟩ := hx.ptr_inv
  rw [hi.int_inv]
  refine .quiet R (.ptr (ha.add _)) ?_
  simp only [Instr.indexAt, asIntOf, Sem.run_bind, Sem.run_pure, run_underlying ht, Result.andThen_ok, sure_run, h0, and_self, if_true, szOf_run hs]
theorem op_indexAddrS (R : HRel P lo n0 β h w) {t e : TypeId} {s n c : Nat} (ht : P.underlying t = some (.slice e)) (hs : szOf P e = some s)
    {x : Addr} {x' i' : Value} {k : IntKind} {i : Int} (hx : VRel β (.slice (some x) n c) x') (hi : VRel β (.int k i) i') (h0 : 0 ≤ i ∧ i < n) :
    VSim P lo n0 β h w (.pointer (some (x.add (i.toNat * s)))) h ((Instr.indexAt t x' i').run P w) := by
  rw [hi.int_inv]
  cases hx with
  | sl ha hc =>
    refine .quiet R (.ptr (ha.add _)) ?_
    simp only [Instr.indexAt, asIntOf, Sem.run_bind, Sem.run_pure, run_underlying ht, Result.andThen_ok, h0, and_self, if_true, szOf_run hs]
theorem op_extract (R : HRel P lo n0 β h w) {vs : Array Value} {i : Nat} {v x' : Value} (hx : VRel β (.tuple vs) x') (hv : vs[i]? = some v) : VSim P lo n0 β h w v h ((Instr.extract x' i).run P w) := by
  obtain ⟨vs', rfl, hc⟩ := hx.tuple_inv
  obtain ⟨v', h1, h2⟩ := hc.get (i := i) (v := v) (by simpa using hv)
  refine .quiet R h2 ?_
  have h1' : vs'[i]? = some v' := by simpa using h1
  simp only [Instr.extract, h1', Sem.run_pure]

/-! ### Slices -/
theorem bound_run {x : Value} {y n : Nat} (hb : bound x y = some n) (code : BoundsCode) (w : World) : (Instr.sliceBound x y code).run P w = .ok n w ∧ n ≤ y := by
  unfold bound at hb
  split at hb
  · rename_i k i
    split at hb
    · rename_i hi
      cases hb
      exact ⟨by simp only [Instr.sliceBound, asIntOf, Sem.run_bind, Sem.run_pure, Result.andThen_ok, hi, and_self, if_true], by omega⟩
    · cases hb
  · cases hb
theorem bound_same {x x' : Value} {y n : Nat} (hx : VRel β x x') (hb : bound x y = some n) : x' = x := by
  cases x <;> simp [bound] at hb
  exact hx.int_inv
theorem bound_mono {x : Value} {y y' n : Nat} (hb : bound x y = some n) (hy : y ≤ y') : bound x y' = some n := by
  unfold bound at hb ⊢
  split at hb
  · split at hb
    · rw [if_pos (by omega)]; exact hb
    · cases hb
  · cases hb
def ORel' (β : Bij) : Option Value → Option Value → Prop
  | none, none => True
  | some v, some v' => VRel β v v'
  | _, _ => False
/-- The bounds of a slice expression, on both sides. -/
theorem bounds_rel {isS : Bool} {len cap cap' : Nat} {ad : Addr} (hc : CapRel β ad len cap cap') {lo' hi mx lo2 hi2 mx2 : Option Value} (h1 : ORel' β lo' lo2) (h2 : ORel' β hi hi2) (h3 : ORel' β mx mx2) {l hh m : Nat}
    (hb : slBounds len cap lo' hi mx = some (l, hh, m)) (w : World) :
    ∃ m', (Instr.sliceBounds isS len cap' lo2 hi2 mx2).run P w = .ok (l, hh, m') w ∧ l ≤ hh ∧ hh ≤ m' ∧ ((m < openCap ∧ m' = m) ∨ (m = cap ∧ openCap ≤ cap ∧ m' = cap' ∧ hh ≤ len)) := by
  obtain ⟨hlen, hc⟩ := hc
  have hcl : (if openCap ≤ cap then len else cap) ≤ cap' := by
    rcases hc with ⟨q1, q2, q3⟩ | ⟨s, q1, q2, _⟩
    · rw [if_neg (by omega)]; omega
    · rw [if_pos (by omega)]; exact q2
  have hcm : (if openCap ≤ cap then len else cap) < openCap := by
    rcases hc with ⟨q1, q2, q3⟩ | ⟨s, q1, q2, _⟩
    · rw [if_neg (by omega)]; exact q1
    · rw [if_pos (by omega)]; exact hlen
  have hlc : len ≤ cap' := by rcases hc with ⟨q1, q2, q3⟩ | ⟨s, q1, q2, _⟩ <;> omega
  have hco : ∀ hh, hh ≤ (if openCap ≤ cap then len else cap) → (cap < openCap ∧ cap' = cap) ∨ (openCap ≤ cap ∧ hh ≤ len) := fun hh h => by
    rcases hc with ⟨q1, q2, q3⟩ | ⟨s, q1, q2, _⟩
    · exact .inl ⟨q1, q2⟩
    · rw [if_pos (by omega)] at h; exact .inr ⟨by omega, h⟩
  simp only [slBounds] at hb
  split at hb
  · cases hb
  · rename_i m0 hm
    split at hb
    · cases hb
    · rename_i h0 hh0
      split at hb
      · cases hb
      · rename_i l0 hl
        cases hb
        -- low
        have hL : ∀ code, (lo' = none ∧ lo2 = none ∧ l = 0) ∨ ∃ v, lo' = some v ∧ lo2 = some v ∧ (Instr.sliceBound v hh code).run P w = .ok l w ∧ l ≤ hh := fun code => by
          cases lo' with
          | none =>
            cases lo2 with
            | some v => exact h1.elim
            | none => simp only [optBound, Option.some.injEq] at hl; exact .inl ⟨rfl, rfl, hl.symm⟩
          | some v =>
            cases lo2 with
            | none => exact h1.elim
            | some v' =>
              simp only [optBound] at hl
              have hv' : v' = v := bound_same h1 hl
              subst hv'
              exact .inr ⟨v', rfl, rfl, bound_run hl _ w⟩
        cases mx with
        | none =>
          cases mx2 with
          | some v => exact h3.elim
          | none =>
            simp only [optBound, Option.some.injEq] at hm
            subst hm
            cases hi with
            | none =>
              cases hi2 with
              | some v => exact h2.elim
              | none =>
                simp only [Option.some.injEq] at hh0; subst hh0
                refine ⟨cap', ?_, ?_, hlc, ?_⟩
                · rcases hL .sliceB with ⟨_, rfl, rfl⟩ | ⟨v, _, rfl, h5, _⟩
                  · simp [Instr.sliceBounds]
                  · simp [Instr.sliceBounds, h5]
                · rcases hL .sliceB with ⟨_, rfl, rfl⟩ | ⟨v, _, rfl, _, h5⟩ <;> omega
                · rcases hc with ⟨q1, q2, q3⟩ | ⟨s, q1, q2, _⟩
                  · exact .inl ⟨q1, q2⟩
                  · exact .inr ⟨rfl, by omega, rfl, Nat.le_refl _⟩
            | some v =>
              cases hi2 with
              | none => exact h2.elim
              | some v' =>
                simp only at hh0
                have hv' : v' = v := bound_same h2 hh0
                subst hv'
                have e1 := bound_run (P := P) (bound_mono hh0 hcl) (if isS then .sliceAcap else .sliceAlen) w
                have e2 := (bound_run (P := P) hh0 .index w).2
                refine ⟨cap', ?_, ?_, e1.2, ?_⟩
                · rcases hL .sliceB with ⟨_, rfl, rfl⟩ | ⟨v, _, rfl, h5, _⟩
                  · simp [Instr.sliceBounds, e1.1]
                  · simp [Instr.sliceBounds, e1.1, h5]
                · rcases hL .sliceB with ⟨_, rfl, rfl⟩ | ⟨v, _, rfl, _, h5⟩ <;> omega
                · rcases hco hh e2 with ⟨q1, q2⟩ | ⟨q1, q2⟩
                  · exact .inl ⟨q1, q2⟩
                  · exact .inr ⟨rfl, q1, rfl, q2⟩
        | some u =>
          cases mx2 with
          | none => exact h3.elim
          | some u' =>
            simp only [optBound] at hm
            have hu' : u' = u := bound_same h3 hm
            subst hu'
            have e0 := bound_run (P := P) (bound_mono hm hcl) (if isS then .slice3Acap else .slice3Alen) w
            have e00 := (bound_run (P := P) hm .index w).2
            cases hi with
            | none => cases hh0
            | some v =>
              cases hi2 with
              | none => exact h2.elim
              | some v' =>
                simp only at hh0
                have hv' : v' = v := bound_same h2 hh0
                subst hv'
                have e1 := bound_run (P := P) hh0 .slice3B w
                refine ⟨m, ?_, ?_, e1.2, .inl ⟨by omega, rfl⟩⟩
                · rcases hL .slice3C with ⟨_, rfl, rfl⟩ | ⟨v, _, rfl, h5, _⟩
                  · simp [Instr.sliceBounds, e0.1, e1.1]
                  · simp [Instr.sliceBounds, e0.1, e1.1, h5]
                · rcases hL .sliceB with ⟨_, rfl, rfl⟩ | ⟨v, _, rfl, _, h5⟩ <;> omega
end
end Go.RS
