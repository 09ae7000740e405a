/- Each operation of the abstract machine is followed by the real one (9): maps. -/
import Derived.Test.YtidnkmbicedmjaaDoorSimJ
namespace Go.RS
open Go

section
variable {P : Program} {lo n0 : Nat} {β : Bij} {h h1 : AH} {w : World} {fr : Fr} {a : Act}

/-! ### A key is one -/
def CkFlat (P : Program) (em : Bool) (D : Nat) (t : TypeId) (ks : List AK) : Prop :=
  ∃ desc, P.underlying t = some desc ∧ ∀ (w : World) (xs : List Value) (b : Bool), atomsEq ks xs xs = some b →
    (isAggD desc = true → (Instr.checkKey em D t (.agg xs.toArray)).run P w = .ok () w) ∧
    (isAggD desc = false → ∃ u, xs = [u] ∧ (Instr.checkKey em D t u).run P w = .ok () w)
theorem part_ck {em : Bool} {D : Nat} {t : TypeId} {ks : List AK} (IH : CkFlat P em D t ks) (hn : szOf P t = some ks.length) (w : World) (xs : List Value) (off : Nat) {c : Bool}
    (he : atomsEq ks ((xs.drop off).take ks.length) ((xs.drop off).take ks.length) = some c) :
    ∃ u, (part t xs.toArray off).run P w = .ok u w ∧ (Instr.checkKey em D t u).run P w = .ok () w := by
  obtain ⟨desc, hd, hall⟩ := IH
  obtain ⟨h1, h2⟩ := hall w _ c he
  rw [part_run hd hn]
  cases hag : isAggD desc with
  | true =>
    simp only [if_true]
    rw [ext_arr]
    exact ⟨_, rfl, h1 hag⟩
  | false =>
    obtain ⟨u, hx, hr⟩ := h2 hag
    simp only [Bool.false_eq_true, if_false]
    have gx : xs[off]? = some u := by
      have := congrArg (·[0]?) hx
      simp only [List.getElem?_take, List.getElem?_drop, Nat.add_zero] at this
      split at this
      · simpa using this
      · simp at this
    simp only [List.getElem?_toArray, gx]
    exact ⟨u, rfl, hr⟩
theorem fields_ck {em : Bool} {rc : TypeId → Option (List AK)} {D : Nat} (IH : ∀ t ks, rc t = some ks → CkFlat P em D t ks) (w : World) (xs : List Value) : ∀ (fs : List Field) (off : Nat) (ks : List AK) (b : Bool),
    flatF P rc fs off = some ks → atomsEq ks (xs.drop off) (xs.drop off) = some b →
    (forIn fs PUnit.unit (fun f (_ : PUnit) => (if f.name ≠ "_" then do
      Instr.checkKey em D f.type (← part f.type xs.toArray f.offset)
      pure (ForInStep.yield PUnit.unit) else pure (ForInStep.yield PUnit.unit) : Sem (ForInStep PUnit)))).run P w = .ok PUnit.unit w
  | [], off, ks, b, hf, he => by simp
  | f :: fs, off, ks, b, hf, he => by
    simp only [flatF] at hf
    split at hf
    · rename_i hc
      obtain ⟨hname, hoff⟩ := hc
      simp only [Option.bind_eq_some_iff] at hf
      obtain ⟨k1, hk1, hf⟩ := hf
      split at hf
      · rename_i hsz
        simp only [Option.map_eq_some_iff] at hf
        obtain ⟨k2, hk2, rfl⟩ := hf
        obtain ⟨c, d, h1, h2, rfl⟩ := atomsEq_append he
        obtain ⟨u, p1, p2⟩ := part_ck (IH _ _ hk1) hsz w xs off h1
        have ih := fields_ck IH w xs fs (off + k1.length) k2 d hk2 (by simpa [List.drop_drop, Nat.add_comm] using h2)
        rw [← hoff] at p1
        simp only [List.forIn_cons, Sem.run_bind, hname, ne_eq, not_false_eq_true, if_true, p1, Result.andThen_ok, p2, Sem.run_pure]
        exact ih
      · cases hf
    · cases hf
theorem items_ck {em : Bool} {e : TypeId} {k : List AK} {D : Nat} (IH : CkFlat P em D e k) (hn : szOf P e = some k.length) (w : World) (xs : List Value) : ∀ (m i : Nat) (b : Bool),
    atomsEq (List.replicate m k).flatten (xs.drop (i * k.length)) (xs.drop (i * k.length)) = some b →
    (forIn (List.range' i m) PUnit.unit (fun j (_ : PUnit) => (do
      Instr.checkKey em D e (← part e xs.toArray (j * (← sizeOf e)))
      pure (ForInStep.yield PUnit.unit) : Sem (ForInStep PUnit)))).run P w = .ok PUnit.unit w
  | 0, i, b, he => by simp
  | m + 1, i, b, he => by
    rw [List.replicate_succ, List.flatten_cons] at he
    obtain ⟨c, d, h1, h2, rfl⟩ := atomsEq_append he
    obtain ⟨u, p1, p2⟩ := part_ck IH hn w xs (i * k.length) h1
    have ih := items_ck IH hn w xs m (i + 1) d (by simpa [List.drop_drop, Nat.add_mul, Nat.add_comm] using h2)
    rw [List.range'_succ]
    simp only [List.forIn_cons, Sem.run_bind, szOf_run hn, Result.andThen_ok, p1, p2, Sem.run_pure]
    exact ih
theorem flat_ck {em : Bool} : ∀ (d : Nat) (t : TypeId) (ks : List AK) (D : Nat), d ≤ D → flatT P d t = some ks → CkFlat P em D t ks
  | 0, t, ks, D, hD, hf => by simp [flatT] at hf
  | d + 1, t, ks, D, hD, hf => by
    obtain ⟨D, rfl⟩ : ∃ E, D = E + 1 := ⟨D - 1, by omega⟩
    have IH : ∀ t ks, flatT P d t = some ks → CkFlat P em D t ks := fun t ks h => flat_ck d t ks D (by omega) h
    simp only [flatT] at hf
    split at hf
    · rename_i fs hu
      split at hf
      · cases hf
      · refine ⟨_, hu, fun w xs b he => ⟨fun _ => ?_, fun hc => by simp [isAggD] at hc⟩⟩
        have := fields_ck IH w xs fs.toList 0 ks b hf (by simpa using he)
        rw [Instr.checkKey]
        simp only [Sem.run_bind, run_underlying hu, Result.andThen_ok]
        rw [← Array.forIn_toList]
        simp only [this, Result.andThen_ok, Sem.run_pure]
    · rename_i n e hu
      simp only [Option.bind_eq_some_iff] at hf
      obtain ⟨k, hk, hf⟩ := hf
      split at hf
      · rename_i hsz
        cases hf
        refine ⟨_, hu, fun w xs b he => ⟨fun _ => ?_, fun hc => by simp [isAggD] at hc⟩⟩
        have := items_ck (IH e k hk) hsz w xs n 0 b (by simpa using he)
        rw [Instr.checkKey]
        simp only [Sem.run_bind, run_underlying hu, Result.andThen_ok]
        simp only [Std.Legacy.Range.forIn_eq_forIn_range', Std.Legacy.Range.size, Nat.sub_zero, Nat.add_one_sub_one, Nat.div_one]
        simp only [this, Result.andThen_ok, Sem.run_pure]
      · cases hf
    · rename_i desc h1 h2 hu
      simp only [Option.bind_eq_some_iff] at hf
      obtain ⟨k, hk, hf⟩ := hf
      split at hf
      · cases hf
        have hag : isAggD desc = false := by cases desc <;> first | rfl | (simp [atomK] at hk)
        refine ⟨_, hu, fun w xs b he => ⟨fun hc => (by rw [hag] at hc; cases hc), fun _ => ?_⟩⟩
        have hl := atomsEq_len he
        obtain ⟨u, rfl⟩ := List.length_eq_one_iff.1 hl.1
        refine ⟨u, rfl, ?_⟩
        rw [Instr.checkKey]
        simp only [Sem.run_bind, run_underlying hu, Result.andThen_ok]
        cases desc <;> first | rfl | (simp [atomK] at hk)
      · cases hf
    · cases hf

/-- The shape of a map's keys, and a key of that shape. -/
structure KeyTy (P : Program) (t : TypeId) (s : KS) : Prop where
  ex : ∃ d, P.underlying t = some d ∧ match s with
    | .one k => atomK d = some k
    | .agg ks => atomK d = none ∧ isAggD d = true ∧ flatT P 50 t = some ks
theorem keyShape_ty {t : TypeId} {s : KS} (hs : keyShape P t = some s) : KeyTy P t s := by
  simp only [keyShape, Option.bind_eq_some_iff] at hs
  obtain ⟨d, hd, hs⟩ := hs
  refine ⟨d, hd, ?_⟩
  split at hs
  · rename_i k hk; cases hs; exact hk
  · rename_i hk
    split at hs
    · rename_i hag
      simp only [Option.map_eq_some_iff] at hs
      obtain ⟨ks, hks, rfl⟩ := hs
      exact ⟨hk, hag, hks⟩
    · cases hs
theorem keyEq_same {s : KS} {x y x' y' : Value} {b : Bool} (hx : VRel β x x') (hy : VRel β y y') (he : keyEq s x y = some b) : x' = x ∧ y' = y := by
  unfold keyEq at he
  split at he
  · obtain ⟨e1, e2, _⟩ := atomEq_same hx hy he; exact ⟨e1, e2⟩
  · obtain ⟨xs', rfl, hxx⟩ := hx.agg_inv
    obtain ⟨ys', rfl, hyy⟩ := hy.agg_inv
    obtain ⟨e1, e2⟩ := atomsEq_same hxx hyy he
    exact ⟨by rw [Array.toList_inj.1 e1], by rw [Array.toList_inj.1 e2]⟩
  · cases he
theorem keyOk_same {s : KS} {x x' : Value} (hx : VRel β x x') (he : keyOk s x = true) : x' = x := by
  unfold keyOk at he
  have : keyEq s x x = some true := by simpa using he
  exact (keyEq_same hx hx this).1
theorem atomEq_eq {k : AK} {x y : Value} (he : atomEq k x y = some true) : x = y := by
  unfold atomEq at he
  split at he
  · split at he
    · rename_i hk; subst hk; simp at he; rw [he]
    · cases he
  · simp at he; rw [he]
  · rename_i a b
    simp only [Option.some.injEq] at he
    rw [beq_toListBytes] at he
    have h2 : a.toList = b.toList := by simpa using he
    rw [ByteArray.toList_eq, ByteArray.toList_eq] at h2
    obtain ⟨x⟩ := a
    obtain ⟨y⟩ := b
    simp only at h2
    rw [Array.toList_inj.1 h2]
  · cases he
theorem atomsEq_eq : ∀ {ks : List AK} {xs ys : List Value}, atomsEq ks xs ys = some true → xs = ys
  | [], [], [], _ => rfl
  | k :: ks, x :: xs, y :: ys, he => by
    simp only [atomsEq] at he
    split at he
    · rename_i a b h1 h2
      simp only [Option.some.injEq, Bool.and_eq_true] at he
      obtain ⟨rfl, rfl⟩ := he
      rw [atomEq_eq h1, atomsEq_eq h2]
    · cases he
  | [], _ :: _, _, he => by simp [atomsEq] at he
  | [], [], _ :: _, he => by simp [atomsEq] at he
  | _ :: _, [], _, he => by simp [atomsEq] at he
  | _ :: _, _ :: _, [], he => by simp [atomsEq] at he
theorem keyEq_eq {s : KS} {x y : Value} (he : keyEq s x y = some true) : x = y := by
  unfold keyEq at he
  split at he
  · exact atomEq_eq he
  · rw [Array.toList_inj.1 (atomsEq_eq he)]
  · cases he
theorem ck_run {t : TypeId} {s : KS} (hs : KeyTy P t s) {x : Value} (hx : keyOk s x = true) (em : Bool) (w : World) : (Instr.checkKey em 10000 t x).run P w = .ok () w := by
  obtain ⟨d, hd, hs⟩ := hs.ex
  have hx' : keyEq s x x = some true := by simpa [keyOk] using hx
  cases s with
  | one k =>
    show (Instr.checkKey em (9999 + 1) t x).run P w = .ok () w
    generalize 9999 = D
    rw [Instr.checkKey]
    simp only at hs
    simp only [Sem.run_bind, run_underlying hd, Result.andThen_ok]
    cases d <;> first | rfl | (simp [atomK] at hs)
  | agg ks =>
    obtain ⟨_, hag, hks⟩ := hs
    simp only [keyEq] at hx'
    split at hx'
    · rename_i heq; cases heq
    · rename_i _ xs _ heq heq2
      cases heq2
      obtain ⟨desc, hd', hall⟩ := flat_ck (P := P) (em := em) 50 t ks 10000 (by decide) (by simpa using hks)
      rw [hd] at hd'; cases hd'
      exact (hall w xs.toList true (by cases heq; exact hx')).1 hag
    · cases hx'

/-! ### Finding a key -/
theorem find_now {d : TypeDesc} {k : AK} (hk : atomK d = some k) {x : Value} : ∀ {es : List (Value × Value × Nat)} {es' : List MapEntry} {i : Nat} {f : Option (Nat × Value)},
    es'.length = es.length → (∀ (j : Nat) (e : Value × Value × Nat) (e' : MapEntry), es[j]? = some e → es'[j]? = some e' → VRel β e.1 e'.key ∧ VRel β e.2.1 e'.val ∧ e'.born = e.2.2) →
    findK (.one k) x es i = some f → keyOk (.one k) x = true →
    ∃ f', Instr.findNow d x es' i = some f' ∧ ((f = none ∧ f' = none) ∨ ∃ j v v', f = some (j, v) ∧ f' = some (j, v') ∧ VRel β v v')
  | [], [], i, f, _, _, hf, _ => by simp [findK] at hf; subst hf; exact ⟨none, rfl, .inl ⟨rfl, rfl⟩⟩
  | e :: es, [], i, f, hl, _, _, _ => by simp at hl
  | [], e' :: es', i, f, hl, _, _, _ => by simp at hl
  | e :: es, e' :: es', i, f, hl, hE, hf, hx => by
    obtain ⟨r1, r2, r3⟩ := hE 0 e e' rfl rfl
    simp only [findK, keyEq] at hf
    have same : ∀ b, atomEq k x e.1 = some b → Instr.sameNow d x e'.key = some b := by
      intro b hb
      unfold atomEq at hb
      split at hb
      · rename_i heq
        rw [heq] at r1
        rw [r1.int_inv]
        cases d <;> simp [atomK] at hk <;> simp only [Instr.sameNow]; exact hb
      · rename_i heq
        rw [heq] at r1
        rw [r1.bool_inv]
        cases d <;> simp [atomK] at hk <;> simp only [Instr.sameNow]; exact hb
      · rename_i heq
        rw [heq] at r1
        rw [r1.str_inv]
        cases d <;> simp [atomK] at hk <;> simp only [Instr.sameNow]; exact hb
      · cases hb
    split at hf
    · rename_i hb
      cases hf
      exact ⟨some (i, e'.val), by simp only [Instr.findNow, same _ hb], .inr ⟨i, e.2.1, e'.val, rfl, rfl, r2⟩⟩
    · rename_i hb
      simp only [Instr.findNow, same _ hb]
      exact find_now hk (by simpa using hl) (fun j u u' a b => hE (j + 1) u u' (by simpa using a) (by simpa using b)) hf hx
    · cases hf
theorem find_asking {t : TypeId} {ks : List AK} {d : TypeDesc} (hd : P.underlying t = some d) (hag : isAggD d = true) (hks : flatT P 50 t = some ks) {x : Value} : ∀ {es : List (Value × Value × Nat)} {es' : List MapEntry} {i : Nat} {f : Option (Nat × Value)},
    es'.length = es.length → (∀ (j : Nat) (e : Value × Value × Nat) (e' : MapEntry), es[j]? = some e → es'[j]? = some e' → VRel β e.1 e'.key ∧ VRel β e.2.1 e'.val ∧ e'.born = e.2.2) →
    findK (.agg ks) x es i = some f → VRel β x x →
    ∃ f', (Instr.findAsking t x es' i).run P w = .ok f' w ∧ ((f = none ∧ f' = none) ∨ ∃ j v v', f = some (j, v) ∧ f' = some (j, v') ∧ VRel β v v')
  | [], [], i, f, _, _, hf, _ => by simp [findK] at hf; subst hf; exact ⟨none, rfl, .inl ⟨rfl, rfl⟩⟩
  | e :: es, [], i, f, hl, _, _, _ => by simp at hl
  | [], e' :: es', i, f, hl, _, _, _ => by simp at hl
  | e :: es, e' :: es', i, f, hl, hE, hf, hx => by
    obtain ⟨r1, r2, r3⟩ := hE 0 e e' rfl rfl
    simp only [findK] at hf
    have same : ∀ b, keyEq (.agg ks) x e.1 = some b → (Op.equal t x e'.key).run P w = .ok b w := by
      intro b hb
      rw [(keyEq_same hx r1 hb).2]
      simp only [keyEq] at hb
      split at hb
      · rename_i heq; cases heq
      · rename_i _ xs ys heq h2
        cases heq
        obtain ⟨desc, hd', hall⟩ := flat_eq (P := P) 50 t ks Op.maxDepth (by decide) (by simpa using hks)
        rw [hd] at hd'; cases hd'
        rw [h2]
        exact (hall w _ _ b hb).1 hag
      · cases hb
    split at hf
    · rename_i hb
      cases hf
      exact ⟨some (i, e'.val), by simp only [Instr.findAsking, Sem.run_bind, same _ hb, Result.andThen_ok, if_true, Sem.run_pure], .inr ⟨i, e.2.1, e'.val, rfl, rfl, r2⟩⟩
    · rename_i hb
      obtain ⟨f', h3, h4⟩ := find_asking hd hag hks (es' := es') (i := i + 1) (by simpa using hl) (fun j u u' a b => hE (j + 1) u u' (by simpa using a) (by simpa using b)) hf hx
      exact ⟨f', by simp only [Instr.findAsking, Sem.run_bind, same _ hb, Result.andThen_ok, Bool.false_eq_true, if_false]; exact h3, h4⟩
    · cases hf
theorem find_rel {t : TypeId} {s : KS} (hs : KeyTy P t s) {x x' : Value} (hx : VRel β x x') (hk : keyOk s x = true) {es : List (Value × Value × Nat)} {es' : Array MapEntry} (hE : ERel β es es') {f : Option (Nat × Value)}
    (hf : findK s x es 0 = some f) (w : World) :
    x' = x ∧ ∃ f', (Instr.findKey t x' es'.toList).run P w = .ok f' w ∧ ((f = none ∧ f' = none) ∨ ∃ j v v', f = some (j, v) ∧ f' = some (j, v') ∧ VRel β v v') := by
  have he := keyOk_same hx hk
  subst he
  refine ⟨rfl, ?_⟩
  have hl : es'.toList.length = es.length := by simpa using hE.1
  have hE' : ∀ (j : Nat) (e : Value × Value × Nat) (e' : MapEntry), es[j]? = some e → es'.toList[j]? = some e' → VRel β e.1 e'.key ∧ VRel β e.2.1 e'.val ∧ e'.born = e.2.2 :=
    fun j e e' a b => hE.2 j e e' a (by simpa using b)
  obtain ⟨d, hd, hs⟩ := hs.ex
  cases s with
  | one k =>
    obtain ⟨f', h1, h2⟩ := find_now hs hl hE' hf hk
    refine ⟨f', ?_, h2⟩
    simp only [Instr.findKey, Sem.run_bind, run_underlying hd, Result.andThen_ok, h1, Sem.run_pure]
  | agg ks =>
    obtain ⟨hno, hag, hks⟩ := hs
    simp only [Instr.findKey, Sem.run_bind, run_underlying hd, Result.andThen_ok]
    have hnow : ∀ y : Value, Instr.sameNow d x' y = none := by
      intro y
      cases d <;> simp [isAggD] at hag <;> rfl
    cases hes : es'.toList with
    | nil =>
      rw [hes] at hl
      have : es = [] := List.eq_nil_of_length_eq_zero (by simpa using hl.symm)
      subst this
      simp [findK] at hf; subst hf
      exact ⟨none, by simp [Instr.findNow], .inl ⟨rfl, rfl⟩⟩
    | cons e0 rest =>
      simp only [Instr.findNow, hnow]
      rw [← hes]
      exact find_asking hd hag hks hl hE' hf hx

theorem getObj_map {r : Nat} {es : Array MapEntry} {c : Nat} (h : w.heap[r]? = some (.map es c)) : (getObj r).run P w = .ok (.map es c) w := by
  simp only [getObj, Sem.run, h]
theorem setObj_run {r : Nat} {o o' : Obj} (h : w.heap[r]? = some o) (hc : ∀ c e z, o ≠ .cells c e z) : (setObj r o').run P w = .ok () { w with heap := w.heap.setIfInBounds r o' } := by
  simp only [setObj, Sem.run, h]

theorem op_lookup (R : HRel P lo n0 β h w) {t kt e : TypeId} {s : KS} {z : Value} {ok : Bool} (ht : P.underlying t = some (.map kt e)) (hs : KeyTy P kt s) (hz : zeroOf P e = some z) (hcz : closedV z = true)
    {m k m' k' : Value} (hm : VRel β m m') (hk : VRel β k k') {es : List (Value × Value × Nat)}
    (hes : mapEs h m = some es) (hok : keyOk s k = true) {f : Option (Nat × Value)} (hf : findK s k es 0 = some f) :
    VSim P lo n0 β h w (lookRes ok z f) h ((Instr.lookup t m' k' ok).run P w) := by
  have hget : ∃ es' : Array MapEntry, ERel β es es' ∧ ((m' = .map none ∧ es' = #[]) ∨ ∃ r c, m' = .map (some r) ∧ w.heap[r]? = some (.map es' c)) := by
    cases hm <;> simp only [mapEs] at hes <;> first
      | (cases hes; done)
      | (cases hes; exact ⟨#[], ⟨rfl, fun i e e' a _ => by simp at a⟩, .inl ⟨rfl, rfl⟩⟩)
      | (rename_i r r' hr
         split at hes
         · rename_i es0 clock hh
           cases hes
           obtain ⟨_, es', h1, h2⟩ := R.obj r r' (0, 0) _ hr hh
           exact ⟨es', h2, .inr ⟨r', _, rfl, h1⟩⟩
         · cases hes)
  clear hes
  obtain ⟨es', hE, hcase⟩ := hget
  obtain ⟨rfl, f', hf1, hf2⟩ := find_rel (P := P) hs hk hok hE hf w
  have hck := ck_run hs hok es'.isEmpty w
  have hv : ∀ (v v' : Value) (b : Bool), VRel β v v' → VRel β (if ok then .tuple #[v, .bool b] else v) (if ok then .tuple #[v', .bool b] else v') := by
    intro v v' b hvv
    cases ok
    · simpa using hvv
    · simp only [if_true]
      exact .tuple' (.cons hvv (.cons (.bool b) (.nil β)))
  rcases hf2 with ⟨rfl, rfl⟩ | ⟨j, v, v', rfl, rfl, hvv⟩
  · refine .quiet R (hv z z false (closedV_rel hcz)) ?_
    rcases hcase with ⟨rfl, rfl⟩ | ⟨r, c, rfl, hr⟩
    · simp only [Instr.lookup, Sem.run_bind, run_underlying ht, Result.andThen_ok, Sem.run_pure, hck, hf1, zeroOf_run hz]
    · simp only [Instr.lookup, Sem.run_bind, run_underlying ht, Result.andThen_ok, getObj_map hr, Sem.run_pure, hck, hf1, zeroOf_run hz]
  · refine .quiet R (hv v v' true hvv) ?_
    rcases hcase with ⟨rfl, rfl⟩ | ⟨r, c, rfl, hr⟩
    · simp only [Instr.lookup, Sem.run_bind, run_underlying ht, Result.andThen_ok, Sem.run_pure, hck, hf1]
    · simp only [Instr.lookup, Sem.run_bind, run_underlying ht, Result.andThen_ok, getObj_map hr, Sem.run_pure, hck, hf1]

theorem sameBits_atom {n : Nat} {k : AK} {x : Value} {b : Bool} (h : atomEq k x x = some b) : Instr.sameBits n x x = true := by
  unfold atomEq at h
  split at h
  · simp [Instr.sameBits]
  · simp [Instr.sameBits]
  · simp only [Instr.sameBits, beq_toListBytes, beq_self_eq_true]
  · cases h
theorem sameBits_atoms {n : Nat} : ∀ {ks : List AK} {xs : List Value} {b : Bool}, atomsEq ks xs xs = some b → (xs.zip xs).all (fun (x, y) => Instr.sameBits n x y) = true
  | [], [], _, _ => rfl
  | k :: ks, x :: xs, b, he => by
    simp only [atomsEq] at he
    split at he
    · rename_i c d h1 h2
      simp only [List.zip_cons_cons, List.all_cons, sameBits_atom h1, sameBits_atoms h2, Bool.and_self]
    · cases he
  | [], _ :: _, _, he => by simp [atomsEq] at he
  | _ :: _, [], _, he => by simp [atomsEq] at he
theorem stays_run {s : KS} {x : Value} (hk : keyOk s x = true) (w : World) : (Instr.keyThatStays x x).run P w = .ok x w := by
  have hk' : keyEq s x x = some true := by simpa [keyOk] using hk
  have hb : Instr.sameBits 10000 x x = true := by
    unfold keyEq at hk'
    split at hk'
    · exact sameBits_atom hk'
    · rename_i heq _
      show Instr.sameBits (9999 + 1) _ _ = true
      generalize 9999 = D
      simp only [Instr.sameBits, beq_self_eq_true, Bool.true_and]
      exact sameBits_atoms hk'
    · cases hk'
  simp only [Instr.keyThatStays, hb, if_true, Sem.run_pure]
theorem find_key : ∀ {s : KS} {x : Value} {es : List (Value × Value × Nat)} {i j : Nat} {v : Value}, findK s x es i = some (some (j, v)) → ∃ e, i ≤ j ∧ es[j - i]? = some e ∧ keyEq s x e.1 = some true ∧ v = e.2.1
  | s, x, [], i, j, v, h => by simp [findK] at h
  | s, x, e :: es, i, j, v, h => by
    simp only [findK] at h
    split at h
    · rename_i hb
      simp only [Option.some.injEq, Prod.mk.injEq] at h
      obtain ⟨rfl, rfl⟩ := h
      exact ⟨e, Nat.le_refl _, by simp, hb, rfl⟩
    · obtain ⟨e0, h1, h2, h3, h4⟩ := find_key h
      refine ⟨e0, by omega, ?_, h3, h4⟩
      rw [show j - i = (j - (i + 1)) + 1 by omega, List.getElem?_cons_succ]; exact h2
    · cases h

/-! ### Entries turned -/
theorem ERel.push {es : List (Value × Value × Nat)} {es' : Array MapEntry} (hE : ERel β es es') {k v k' v' : Value} (hk : VRel β k k') (hv : VRel β v v') (c : Nat) : ERel β (es ++ [(k, v, c)]) (es'.push { key := k', val := v', born := c }) := by
  refine ⟨by simp [hE.1], fun i e e' a b => ?_⟩
  by_cases hi : i < es.length
  · rw [List.getElem?_append_left hi] at a
    rw [Array.getElem?_push, if_neg (by rw [hE.1]; omega)] at b
    exact hE.2 i e e' a b
  · have hlt : i < (es ++ [(k, v, c)]).length := (List.getElem?_eq_some_iff.1 a).1
    have hi2 : i = es.length := by simp at hlt; omega
    subst hi2
    rw [List.getElem?_append_right (Nat.le_refl _), Nat.sub_self] at a
    rw [Array.getElem?_push, if_pos (by rw [hE.1])] at b
    simp at a b
    subst a; subst b
    exact ⟨hk, hv, rfl⟩
theorem ERel.modify {es : List (Value × Value × Nat)} {es' : Array MapEntry} (hE : ERel β es es') (i : Nat) {f : Value × Value × Nat → Value × Value × Nat} {g : MapEntry → MapEntry}
    (hfg : ∀ e e', es[i]? = some e → es'[i]? = some e' → VRel β (f e).1 (g e').key ∧ VRel β (f e).2.1 (g e').val ∧ (g e').born = (f e).2.2) : ERel β (es.modify i f) (es'.modify i g) := by
  refine ⟨by simp [hE.1], fun j e e' a b => ?_⟩
  rw [List.getElem?_modify] at a
  rw [Array.getElem?_modify] at b
  simp only [Option.map_eq_map, Option.map_eq_some_iff] at a
  obtain ⟨e0, a0, ha⟩ := a
  by_cases hj : i = j
  · subst hj
    simp only [if_true, Option.map_eq_some_iff] at ha b
    obtain ⟨e1, b0, rfl⟩ := b
    subst ha
    exact hfg e0 e1 a0 b0
  · simp only [hj, if_false] at ha b
    subst ha
    exact hE.2 j e0 e' a0 b

theorem op_mapUpdate (R : HRel P lo n0 β h w) {t kt e : TypeId} {s : KS} (ht : P.underlying t = some (.map kt e)) (hs : KeyTy P kt s) {r : Nat} {m' k x k' x' : Value} (hm : VRel β (.map (some r)) m') (hk : VRel β k k') (hx : VRel β x x')
    (hlo : lo ≤ r) {es : List (Value × Value × Nat)} {clock : Nat} (hes : h[r]? = some (.map es clock)) (hok : keyOk s k = true) {f : Option (Nat × Value)} (hf : findK s k es 0 = some f) :
    USim P lo n0 β h w (updMap h r es clock k x f) ((Instr.mapUpdate t m' k' x').run P w) := by
  cases hm with
  | @map _ r' hr =>
  obtain ⟨_, es', h1, hE⟩ := R.obj r r' (0, 0) _ hr hes
  obtain ⟨rfl, f', hf1, hf2⟩ := find_rel (P := P) hs hk hok hE hf w
  have hck := ck_run hs hok false w
  rcases hf2 with ⟨rfl, rfl⟩ | ⟨j, v, v', rfl, rfl, hvv⟩
  · have key := R.set hlo hr (by rw [hes]; simp) (.map (es ++ [(k', x, clock)]) (clock + 1)) (.map (es'.push { key := k', val := x', born := clock }) (clock + 1)) ⟨rfl, _, rfl, hE.push hk hx clock⟩ (by simp) (fun L hL => by rw [h1] at hL; cases hL)
    refine ⟨β, _, ?_, key.1, key.2⟩
    simp only [Instr.mapUpdate, Sem.run_bind, run_underlying ht, Result.andThen_ok, getObj_map h1, hck, hf1]
    exact setObj_run h1 (by simp)
  · obtain ⟨e0, _, g2, g3, g4⟩ := find_key hf
    rw [Nat.sub_zero] at g2
    have hjl : j < es'.size := by rw [hE.1]; exact (List.getElem?_eq_some_iff.1 g2).1
    have hj2 : es'[j]? = some es'[j] := Array.getElem?_eq_getElem hjl
    have hold : es'[j].key = k' := by
      have r1 := (hE.2 j e0 _ g2 hj2).1
      rw [← keyEq_eq g3] at r1
      exact keyOk_same r1 hok
    have key := R.set hlo hr (by rw [hes]; simp) (.map (es.modify j fun e => (k', x, e.2.2)) clock) (.map (es'.modify j fun e => { e with key := k', val := x' }) clock)
      ⟨rfl, _, rfl, hE.modify j (fun e e' a b => ⟨hk, hx, (hE.2 j e e' a b).2.2⟩)⟩ (by simp) (fun L hL => by rw [h1] at hL; cases hL)
    refine ⟨β, _, ?_, key.1, key.2⟩
    simp only [Instr.mapUpdate, Sem.run_bind, run_underlying ht, Result.andThen_ok, getObj_map h1, hck, hf1, hj2, Option.map_some, Option.getD_some, hold, stays_run hok]
    exact setObj_run h1 (by simp)

theorem op_mapEntry (R : HRel P lo n0 β h w) {t kt e : TypeId} {s : KS} {z : Value} (ht : P.underlying t = some (.map kt e)) (hs : KeyTy P kt s) (hz : zeroOf P e = some z) (hcz : closedV z = true)
    {r : Nat} {m' k k' : Value} (hm : VRel β (.map (some r)) m') (hk : VRel β k k')
    (hlo : lo ≤ r) {es : List (Value × Value × Nat)} {clock : Nat} (hes : h[r]? = some (.map es clock)) (hok : keyOk s k = true) {f : Option (Nat × Value)} (hf : findK s k es 0 = some f) {v : Value}
    (hv : entMap h r es clock k z f = (v, h1)) :
    VSim P lo n0 β h w v h1 ((Instr.mapEntry t m' k').run P w) := by
  cases hm with
  | @map _ r' hr =>
  obtain ⟨_, es', g1, hE⟩ := R.obj r r' (0, 0) _ hr hes
  obtain ⟨rfl, f', hf1, hf2⟩ := find_rel (P := P) hs hk hok hE hf w
  have hck := ck_run hs hok false w
  rcases hf2 with ⟨rfl, rfl⟩ | ⟨j, v0, v', rfl, rfl, hvv⟩
  · simp only [entMap, Prod.mk.injEq] at hv
    obtain ⟨rfl, rfl⟩ := hv
    have key := R.set hlo hr (by rw [hes]; simp) (.map (es ++ [(k', z, clock)]) (clock + 1)) (.map (es'.push { key := k', val := z, born := clock }) (clock + 1)) ⟨rfl, _, rfl, hE.push hk (closedV_rel hcz) clock⟩ (by simp) (fun L hL => by rw [g1] at hL; cases hL)
    refine ⟨β, _, .tuple #[z, .int .i64 clock], ?_, .tuple' (.cons (closedV_rel hcz) (.cons (.int _ _) (.nil β))), key.1, key.2⟩
    simp only [Instr.mapEntry, Sem.run_bind, run_underlying ht, Result.andThen_ok, getObj_map g1, hck, hf1, zeroOf_run hz, Sem.run_pure]
    rw [setObj_run g1 (by simp)]
    rfl
  · obtain ⟨e0, _, g2, g3, g4⟩ := find_key hf
    rw [Nat.sub_zero] at g2
    simp only [entMap, Prod.mk.injEq] at hv
    obtain ⟨rfl, rfl⟩ := hv
    have hjl : j < es'.size := by rw [hE.1]; exact (List.getElem?_eq_some_iff.1 g2).1
    have hj2 : es'[j]? = some es'[j] := Array.getElem?_eq_getElem hjl
    have hrel := hE.2 j e0 _ g2 hj2
    have hold : es'[j].key = k' := by
      have r1 := hrel.1
      rw [← keyEq_eq g3] at r1
      exact keyOk_same r1 hok
    have key := R.set hlo hr (by rw [hes]; simp) (.map (es.modify j fun e => (k', e.2)) clock) (.map (es'.modify j fun e => { e with key := k' }) clock)
      ⟨rfl, _, rfl, hE.modify j (fun e e' a b => ⟨hk, (hE.2 j e e' a b).2⟩)⟩ (by simp) (fun L hL => by rw [g1] at hL; cases hL)
    refine ⟨β, _, .tuple #[v', .int .i64 e0.2.2], ?_, ?_, key.1, key.2⟩
    · simp only [Instr.mapEntry, Sem.run_bind, run_underlying ht, Result.andThen_ok, getObj_map g1, hck, hf1, hj2, Option.map_some, Option.getD_some, hold, stays_run hok]
      rw [setObj_run g1 (by simp)]
      simp only [Result.andThen_ok, Sem.run_pure, goInt, hrel.2.2]
    · simp only [g2, Option.map_some, Option.getD_some]
      exact .tuple' (.cons hvv (.cons (.int _ _) (.nil β)))

theorem findIdx_rel {es : List (Value × Value × Nat)} {es' : Array MapEntry} (hE : ERel β es es') (born : Int) : es'.findIdx? (fun e => (e.born : Int) == born) = es.findIdx? (fun e => (e.2.2 : Int) == born) := by
  have : es'.toList.map (·.born) = es.map (·.2.2) := by
    apply List.ext_getElem?
    intro i
    simp only [List.getElem?_map]
    cases h1 : es[i]? with
    | none =>
      have : es'.toList[i]? = none := by
        rw [List.getElem?_eq_none_iff] at h1 ⊢
        simpa [hE.1] using h1
      rw [this]; rfl
    | some e =>
      have hlt : i < es'.size := by rw [hE.1]; exact (List.getElem?_eq_some_iff.1 h1).1
      have h2 : es'[i]? = some es'[i] := Array.getElem?_eq_getElem hlt
      rw [Array.getElem?_toList, h2]
      simp [(hE.2 i e _ h1 h2).2.2]
  have e0 : es'.findIdx? (fun e => (e.born : Int) == born) = es'.toList.findIdx? (fun e => (e.born : Int) == born) := by
    rw [← List.findIdx?_toArray, Array.toArray_toList]
  have e1 : es'.toList.findIdx? (fun e => (e.born : Int) == born) = (es'.toList.map (·.born)).findIdx? (fun b : Nat => ((b : Nat) : Int) == born) := by rw [List.findIdx?_map]; rfl
  have e2 : es.findIdx? (fun e => (e.2.2 : Int) == born) = (es.map (·.2.2)).findIdx? (fun b : Nat => ((b : Nat) : Int) == born) := by rw [List.findIdx?_map]; rfl
  rw [e0, e1, this, ← e2]

theorem op_entryStore (R : HRel P lo n0 β h w) (t : TypeId) {r : Nat} {m' x s' x' : Value} {ki : IntKind} {born : Int} (hm : VRel β (.map (some r)) m') (hs : VRel β (.int ki born) s') (hx : VRel β x x')
    (hlo : lo ≤ r) {es : List (Value × Value × Nat)} {clock i : Nat} (hes : h[r]? = some (.map es clock)) (hi : es.findIdx? (fun e => (e.2.2 : Int) == born) = some i) :
    USim P lo n0 β h w (h.setIfInBounds r (.map (es.modify i fun e => (e.1, x, e.2.2)) clock)) ((Instr.entryStore t m' s' x').run P w) := by
  cases hm with
  | @map _ r' hr =>
  obtain ⟨_, es', g1, hE⟩ := R.obj r r' (0, 0) _ hr hes
  rw [hs.int_inv]
  have key := R.set hlo hr (by rw [hes]; simp) (.map (es.modify i fun e => (e.1, x, e.2.2)) clock) (.map (es'.modify i fun e => { e with val := x' }) clock)
    ⟨rfl, _, rfl, hE.modify i (fun e e' a b => ⟨(hE.2 i e e' a b).1, hx, (hE.2 i e e' a b).2.2⟩)⟩ (by simp) (fun L hL => by rw [g1] at hL; cases hL)
  refine ⟨β, _, ?_, key.1, key.2⟩
  simp only [Instr.entryStore, Sem.run_bind, getObj_map g1, Result.andThen_ok, asInt, asIntOf, Sem.run_pure, findIdx_rel hE, hi]
  exact setObj_run g1 (by simp)
end
end Go.RS
