/- Each operation of the abstract machine is followed by the real one (4): comparisons of aggregates, slices, fields, indexes. -/
import Derived.Test.YtidnkmbicedmjaaDoorSimE
import Derived.Laws.StructEq
import Derived.ChangeKeysEq
namespace Go.RS
open Go

section
variable {P : Program} {lo n0 : Nat} {β : Bij} {h h1 : AH} {w : World} {fr : Fr} {a : Act}

/-! ### Atoms -/
theorem atomEq_same {k : AK} {x y x' y' : Value} {b : Bool} (hx : VRel β x x') (hy : VRel β y y') (he : atomEq k x y = some b) : x' = x ∧ y' = y ∧ atomEq k x' y' = some b := by
  unfold atomEq at he
  split at he <;> first
    | (rw [hx.int_inv, hy.int_inv]; exact ⟨rfl, rfl, he⟩)
    | (rw [hx.bool_inv, hy.bool_inv]; exact ⟨rfl, rfl, he⟩)
    | (rw [hx.str_inv, hy.str_inv]; exact ⟨rfl, rfl, he⟩)
    | cases he
theorem atomsEq_same : ∀ {ks : List AK} {x y x' y' : List Value} {b : Bool}, LRel β x x' → LRel β y y' → atomsEq ks x y = some b → x' = x ∧ y' = y
  | [], [], [], x', y', b, hx, hy, he => ⟨List.eq_nil_of_length_eq_zero hx.1.symm, List.eq_nil_of_length_eq_zero hy.1.symm⟩
  | k :: ks, u :: x, v :: y, x', y', b, hx, hy, he => by
    cases x' with
    | nil => have := hx.1; simp at this
    | cons u' x' =>
      cases y' with
      | nil => have := hy.1; simp at this
      | cons v' y' =>
        simp only [atomsEq] at he
        split at he
        · rename_i c d h1 h2
          obtain ⟨e1, e2, _⟩ := atomEq_same hx.head hy.head h1
          obtain ⟨e3, e4⟩ := atomsEq_same hx.tail hy.tail h2
          exact ⟨by rw [e1, e3], by rw [e2, e4]⟩
        · cases he
  | [], _ :: _, _, _, _, _, _, _, he => by simp [atomsEq] at he
  | [], [], _ :: _, _, _, _, _, _, he => by simp [atomsEq] at he
  | _ :: _, [], _, _, _, _, _, _, he => by simp [atomsEq] at he
  | _ :: _, _ :: _, [], _, _, _, _, _, he => by simp [atomsEq] at he

theorem atomsEq_len : ∀ {ks : List AK} {x y : List Value} {b : Bool}, atomsEq ks x y = some b → x.length = ks.length ∧ y.length = ks.length
  | [], [], [], _, _ => ⟨rfl, rfl⟩
  | k :: ks, u :: x, v :: y, b, he => by
    simp only [atomsEq] at he
    split at he
    · rename_i c d h1 h2
      have := atomsEq_len h2
      simp; exact this
    · cases he
  | [], _ :: _, _, _, he => by simp [atomsEq] at he
  | [], [], _ :: _, _, he => by simp [atomsEq] at he
  | _ :: _, [], _, _, he => by simp [atomsEq] at he
  | _ :: _, _ :: _, [], _, he => by simp [atomsEq] at he
theorem atomsEq_append : ∀ {ks ls : List AK} {x y : List Value} {b : Bool}, atomsEq (ks ++ ls) x y = some b →
    ∃ c d, atomsEq ks (x.take ks.length) (y.take ks.length) = some c ∧ atomsEq ls (x.drop ks.length) (y.drop ks.length) = some d ∧ b = (c && d)
  | [], ls, x, y, b, he => ⟨true, b, by simp [atomsEq], by simpa using he, by simp⟩
  | k :: ks, ls, [], y, b, he => by simp [atomsEq] at he
  | k :: ks, ls, u :: x, [], b, he => by simp [atomsEq] at he
  | k :: ks, ls, u :: x, v :: y, b, he => by
    simp only [List.cons_append, atomsEq] at he
    split at he
    · rename_i c d h1 h2
      obtain ⟨c', d', h3, h4, h5⟩ := atomsEq_append h2
      cases he
      refine ⟨c && c', d', ?_, by simpa using h4, by rw [h5, Bool.and_assoc]⟩
      simp only [List.length_cons, List.take_succ_cons, atomsEq, h1, h3]
    · cases he

theorem part_run {t : TypeId} {d : TypeDesc} (hd : P.underlying t = some d) {n : Nat} (hn : szOf P t = some n) (cs : Array Value) (off : Nat) (w : World) :
    (part t cs off).run P w = if isAggD d then .ok (.agg (cs.extract off (off + n))) w else match cs[off]? with | some v => .ok v w | none => .halt (.stuck "part: no such cell") w := by
  simp only [part, Sem.run_bind, isAgg_run hd, Result.andThen_ok, Sem.run_ite, szOf_run hn, Sem.run_pure]
  split
  · rfl
  · cases cs[off]? <;> rfl

theorem cellsOf_of_szOf {t : TypeId} {n : Nat} (h : szOf P t = some n) : P.cellsOf t = n := by
  simp only [szOf, Option.map_eq_some_iff] at h
  obtain ⟨i, hi, rfl⟩ := h
  simp [Program.cellsOf, hi]

/-- Equality of two aggregates of atoms, and of two atoms. -/
def EqFlat (P : Program) (D : Nat) (t : TypeId) (ks : List AK) : Prop :=
  ∃ desc, P.underlying t = some desc ∧ ∀ (w : World) (xs ys : List Value) (b : Bool), atomsEq ks xs ys = some b →
    (isAggD desc = true → (Op.equalIn D t (.agg xs.toArray) (.agg ys.toArray)).run P w = .ok b w) ∧
    (isAggD desc = false → ∃ u v, xs = [u] ∧ ys = [v] ∧ (Op.equalIn D t u v).run P w = .ok b w)

theorem ext_arr (xs : List Value) (off n : Nat) : xs.toArray.extract off (off + n) = ((xs.drop off).take n).toArray := by
  apply Array.ext'
  simp [List.extract_eq_take_drop]
/-- The parts of two aggregates, compared. -/
theorem part_eq {D : Nat} {t : TypeId} {ks : List AK} (IH : EqFlat P D t ks) (hn : szOf P t = some ks.length) (w : World) (xs ys : List Value) (off : Nat) {c : Bool}
    (he : atomsEq ks ((xs.drop off).take ks.length) ((ys.drop off).take ks.length) = some c) :
    ∃ u v, (part t xs.toArray off).run P w = .ok u w ∧ (part t ys.toArray off).run P w = .ok v w ∧ (Op.equalIn D t u v).run P w = .ok c w := by
  obtain ⟨desc, hd, hall⟩ := IH
  obtain ⟨h1, h2⟩ := hall w _ _ c he
  rw [part_run hd hn, part_run hd hn]
  cases hag : isAggD desc with
  | true =>
    simp only [if_true]
    rw [ext_arr, ext_arr]
    exact ⟨_, _, rfl, rfl, h1 hag⟩
  | false =>
    obtain ⟨u, v, hx, hy, hr⟩ := h2 hag
    simp only [Bool.false_eq_true, if_false]
    have gx : xs[off]? = some u := by
      have := congrArg (·[0]?) hx
      simp only [List.getElem?_take, List.getElem?_drop, Nat.add_zero] at this
      split at this
      · simpa using this
      · simp at this
    have gy : ys[off]? = some v := by
      have := congrArg (·[0]?) hy
      simp only [List.getElem?_take, List.getElem?_drop, Nat.add_zero] at this
      split at this
      · simpa using this
      · simp at this
    simp only [List.getElem?_toArray, gx, gy]
    exact ⟨u, v, rfl, rfl, hr⟩

theorem fields_eq {rc : TypeId → Option (List AK)} {D : Nat} (IH : ∀ t ks, rc t = some ks → EqFlat P D t ks) (w : World) (xs ys : List Value) : ∀ (fs : List Field) (off : Nat) (ks : List AK) (b : Bool),
    flatF P rc fs off = some ks → atomsEq ks (xs.drop off) (ys.drop off) = some b → (Op.eqFields D xs.toArray ys.toArray fs).run P w = .ok b w
  | [], off, ks, b, hf, he => by
    simp only [flatF, Option.some.injEq] at hf; subst hf
    have h1 := atomsEq_len he
    have e1 : xs.drop off = [] := List.eq_nil_of_length_eq_zero h1.1
    have e2 : ys.drop off = [] := List.eq_nil_of_length_eq_zero h1.2
    rw [e1, e2] at he
    simp only [atomsEq, Option.some.injEq] at he; subst he
    rfl
  | f :: fs, off, ks, b, hf, he => by
    simp only [flatF] at hf
    split at hf
    · rename_i hc
      obtain ⟨hname, hoff⟩ := hc
      simp only [Option.bind_eq_some_iff] at hf
      obtain ⟨k1, hk1, hf⟩ := hf
      split at hf
      · rename_i hsz
        simp only [Option.map_eq_some_iff] at hf
        obtain ⟨k2, hk2, rfl⟩ := hf
        obtain ⟨c, d, h1, h2, rfl⟩ := atomsEq_append he
        obtain ⟨u, v, p1, p2, p3⟩ := part_eq (IH _ _ hk1) hsz w xs ys off h1
        have ih := fields_eq IH w xs ys fs (off + k1.length) k2 d hk2 (by simpa [List.drop_drop, Nat.add_comm] using h2)
        rw [← hoff] at p1 p2
        simp only [Op.eqFields, hname, ne_eq, not_false_eq_true, if_true, Sem.run_bind, p1, p2, p3, Result.andThen_ok]
        cases c
        · simp
        · simpa using ih
      · cases hf
    · cases hf

theorem items_eq {e : TypeId} {k : List AK} {D : Nat} (IH : EqFlat P D e k) (hn : szOf P e = some k.length) (w : World) (xs ys : List Value) : ∀ (m i : Nat) (b : Bool),
    atomsEq (List.replicate m k).flatten (xs.drop (i * k.length)) (ys.drop (i * k.length)) = some b →
    (Op.eqItems D e k.length xs.toArray ys.toArray (List.range' i m)).run P w = .ok b w
  | 0, i, b, he => by
    simp only [List.replicate_zero, List.flatten_nil] at he
    have h1 := atomsEq_len he
    have e1 : xs.drop (i * k.length) = [] := List.eq_nil_of_length_eq_zero h1.1
    have e2 : ys.drop (i * k.length) = [] := List.eq_nil_of_length_eq_zero h1.2
    rw [e1, e2] at he
    simp only [atomsEq, Option.some.injEq] at he; subst he
    rfl
  | m + 1, i, b, he => by
    rw [List.replicate_succ, List.flatten_cons] at he
    obtain ⟨c, d, h1, h2, rfl⟩ := atomsEq_append he
    obtain ⟨u, v, p1, p2, p3⟩ := part_eq IH hn w xs ys (i * k.length) h1
    have ih := items_eq IH hn w xs ys m (i + 1) d (by simpa [List.drop_drop, Nat.add_mul, Nat.add_comm] using h2)
    rw [List.range'_succ]
    simp only [Op.eqItems, Sem.run_bind, p1, p2, p3, Result.andThen_ok]
    cases c
    · simp
    · simpa using ih

theorem flat_eq : ∀ (d : Nat) (t : TypeId) (ks : List AK) (D : Nat), d ≤ D → flatT P d t = some ks → EqFlat P D t ks
  | 0, t, ks, D, hD, hf => by simp [flatT] at hf
  | d + 1, t, ks, D, hD, hf => by
    obtain ⟨D, rfl⟩ : ∃ E, D = E + 1 := ⟨D - 1, by omega⟩
    have IH : ∀ t ks, flatT P d t = some ks → EqFlat P D t ks := fun t ks h => flat_eq d t ks D (by omega) h
    simp only [flatT] at hf
    split at hf
    · rename_i fs hu
      split at hf
      · cases hf
      · rename_i hst
        refine ⟨_, hu, fun w xs ys b he => ⟨fun _ => ?_, fun hc => by simp [isAggD] at hc⟩⟩
        have hfs : P.fieldsOf t = fs := by simp [Program.fieldsOf, hu]
        rw [run_equalIn_struct w D t _ _ (by rw [hfs]; exact hu) (by simpa using hst), hfs]
        exact fields_eq IH w xs ys fs.toList 0 ks b hf (by simpa using he)
    · rename_i n e hu
      simp only [Option.bind_eq_some_iff] at hf
      obtain ⟨k, hk, hf⟩ := hf
      split at hf
      · rename_i hsz
        cases hf
        refine ⟨_, hu, fun w xs ys b he => ⟨fun _ => ?_, fun hc => by simp [isAggD] at hc⟩⟩
        have hi : ∃ i, P.info? e = some i := by
          simp only [szOf, Option.map_eq_some_iff] at hsz
          obtain ⟨i, hi, _⟩ := hsz; exact ⟨i, hi⟩
        obtain ⟨i, hi⟩ := hi
        rw [run_equalIn_array w D _ _ hu hi, cellsOf_of_szOf hsz, List.range_eq_range']
        exact items_eq (IH e k hk) hsz w xs ys n 0 b (by simpa using he)
      · cases hf
    · rename_i desc h1 h2 hu
      simp only [Option.bind_eq_some_iff] at hf
      obtain ⟨k, hk, hf⟩ := hf
      split at hf
      · rename_i hsz
        cases hf
        have hag : isAggD desc = false := by cases desc <;> first | rfl | (simp [atomK] at hk)
        refine ⟨_, hu, fun w xs ys b he => ⟨fun hc => (by rw [hag] at hc; cases hc), fun _ => ?_⟩⟩
        have hl := atomsEq_len he
        obtain ⟨u, rfl⟩ := List.length_eq_one_iff.1 hl.1
        obtain ⟨v, rfl⟩ := List.length_eq_one_iff.1 hl.2
        · refine ⟨u, v, rfl, rfl, ?_⟩
          simp only [atomsEq] at he
          split at he
          · rename_i c d' e1 e2
            cases he; cases e2
            unfold atomEq at e1
            split at e1
            · split at e1
              · rename_i hk'; subst hk'
                cases e1
                cases desc <;> simp [atomK] at hk
                simp [Op.equalIn, run_underlying hu]
              · cases e1
            · cases e1
              cases desc <;> simp [atomK] at hk
              simp [Op.equalIn, run_underlying hu]
            · cases e1
              cases desc <;> simp [atomK] at hk
              simp [Op.equalIn, run_underlying hu]
            · cases e1
          · cases he
      · cases hf
    · cases hf

theorem op_eqAgg (R : HRel P lo n0 β h w) {neg : Bool} {t : TypeId} {x y : Operand} {d : TypeDesc} {ks : List AK} {u v u' v' : Value} {b : Bool} (hd : P.underlying t = some d) (hag : isAggD d = true)
    (hg : P.eqGuardType P.depth t = false) (hk : flatT P 50 t = some ks) (hu : VRel β u u') (hv : VRel β v v') (hr : keyEq (.agg ks) u v = some b) :
    VSim P lo n0 β h w (.bool (if neg then !b else b)) h ((do eqGuard (if neg then .neq else .eql) t x y u' v'; binOp (if neg then .neq else .eql) t u' v').run P w) := by
  unfold keyEq at hr
  split at hr
  · rename_i heq; cases heq
  · rename_i ks' xs ys heq
    cases heq
    obtain ⟨xs', rfl, hxx⟩ := hu.agg_inv
    obtain ⟨ys', rfl, hyy⟩ := hv.agg_inv
    obtain ⟨ex, ey⟩ := atomsEq_same hxx hyy hr
    have e1 : xs' = xs := Array.toList_inj.1 ex
    have e2 : ys' = ys := Array.toList_inj.1 ey
    subst e1; subst e2
    obtain ⟨desc, hd', hall⟩ := flat_eq (P := P) 50 t ks Op.maxDepth (by decide) hk
    rw [hd] at hd'; cases hd'
    have heq := (hall w _ _ b hr).1 hag
    refine .quiet R (.bool _) ?_
    have hgr : ∀ op, (eqGuard op t x y (.agg xs') (.agg ys')).run P w = .ok () w := by
      intro op
      unfold eqGuard
      cases op <;> simp [hg]
    cases neg
    · simp only [Bool.false_eq_true, if_false, Sem.run_bind, hgr, Result.andThen_ok]
      rw [run_eql_struct]
      have : (Op.equalIn 10000 t (.agg xs') (.agg ys')).run P w = .ok b w := heq
      rw [this]; rfl
    · simp only [if_true, Sem.run_bind, hgr, Result.andThen_ok]
      rw [run_neq_struct]
      have : (Op.equalIn 10000 t (.agg xs') (.agg ys')).run P w = .ok b w := heq
      rw [this]; rfl
  · cases hr
end
end Go.RS
