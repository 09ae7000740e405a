/- A runner of the abstract machine that the kernel can run: memory as a tree. -/
import Derived.Test.YtidnkmbicedmjaaDoorSmb
set_option linter.all false
namespace Go.RS
open Go

inductive HT where
  | leaf
  | node (o : AObj) (l r : HT)
noncomputable def HT.get (t : HT) : Nat → AObj := HT.rec (fun _ => .junk) (fun o _ _ il ir n => cond (Nat.beq n 0) o (cond (Nat.beq (Nat.mod n 2) 1) (il (Nat.div n 2)) (ir (Nat.sub (Nat.div n 2) 1)))) t
theorem HT.get_leaf (n : Nat) : HT.leaf.get n = .junk := rfl
theorem nbeq (a b : Nat) : Nat.beq a b = decide (a = b) := by
  cases h : Nat.beq a b with
  | true => have := Nat.eq_of_beq_eq_true h; simp [this]
  | false => have := Nat.ne_of_beq_eq_false h; simp [this]
theorem HT.get_node (o : AObj) (l r : HT) (n : Nat) : (HT.node o l r).get n = if n = 0 then o else if n % 2 = 1 then l.get (n / 2) else r.get (n / 2 - 1) := by
  show cond (Nat.beq n 0) o (cond (Nat.beq (Nat.mod n 2) 1) (l.get (Nat.div n 2)) (r.get (Nat.sub (Nat.div n 2) 1))) = _
  rw [nbeq, nbeq, Bool.cond_decide, Bool.cond_decide]; rfl
noncomputable def HT.set (f : Nat) : HT → Nat → AObj → Option HT := Nat.rec (fun _ _ _ => none) (fun _ ih t n o =>
  HT.casesOn (motive := fun _ => Option HT) t
    (cond (Nat.beq n 0) (some (.node o .leaf .leaf)) (cond (Nat.beq (Nat.mod n 2) 1) ((ih .leaf (Nat.div n 2) o).map fun l => .node .junk l .leaf) ((ih .leaf (Nat.sub (Nat.div n 2) 1) o).map fun r => .node .junk .leaf r)))
    (fun o0 l r => cond (Nat.beq n 0) (some (.node o l r)) (cond (Nat.beq (Nat.mod n 2) 1) ((ih l (Nat.div n 2) o).map fun l => .node o0 l r) ((ih r (Nat.sub (Nat.div n 2) 1) o).map fun r => .node o0 l r)))) f
theorem HT.set_zero (t : HT) (n : Nat) (o : AObj) : HT.set 0 t n o = none := rfl
theorem HT.set_leaf (f n : Nat) (o : AObj) : HT.set (f + 1) .leaf n o = if n = 0 then some (.node o .leaf .leaf) else if n % 2 = 1 then (HT.set f .leaf (n / 2) o).map fun l => .node .junk l .leaf else (HT.set f .leaf (n / 2 - 1) o).map fun r => .node .junk .leaf r := by
  show cond (Nat.beq n 0) _ (cond (Nat.beq (Nat.mod n 2) 1) _ _) = _
  rw [nbeq, nbeq, Bool.cond_decide, Bool.cond_decide]; rfl
theorem HT.set_node (f n : Nat) (o o0 : AObj) (l r : HT) : HT.set (f + 1) (.node o0 l r) n o = if n = 0 then some (.node o l r) else if n % 2 = 1 then (HT.set f l (n / 2) o).map fun l => .node o0 l r else (HT.set f r (n / 2 - 1) o).map fun r => .node o0 l r := by
  show cond (Nat.beq n 0) _ (cond (Nat.beq (Nat.mod n 2) 1) _ _) = _
  rw [nbeq, nbeq, Bool.cond_decide, Bool.cond_decide]; rfl
theorem HT.get_set : ∀ (f : Nat) (t t' : HT) (n : Nat) (o : AObj), HT.set f t n o = some t' → ∀ m, t'.get m = if m = n then o else t.get m
  | 0, t, t', n, o, h => by simp [HT.set_zero] at h
  | f + 1, .leaf, t', n, o, h => by
    intro m
    simp only [HT.set_leaf] at h
    split at h
    · rename_i h0
      cases h
      have : n = 0 := by simpa using h0
      subst this
      simp [HT.get_node, HT.get_leaf]
    · rename_i h0
      have h0 : n ≠ 0 := by simpa using h0
      split at h
      · rename_i h1
        have h1 : n % 2 = 1 := by simpa using h1
        simp only [Option.map_eq_some_iff] at h
        obtain ⟨l, hl, rfl⟩ := h
        have ih := HT.get_set f _ _ _ _ hl
        simp only [HT.get_node, HT.get_leaf]
        by_cases hm : m = n
        · subst hm; simp [h0, h1, ih]
        · by_cases hm0 : m = 0
          · subst hm0; simp [hm]
          · by_cases hm1 : m % 2 = 1
            · simp [hm, hm0, hm1, ih, HT.get_leaf]; omega
            · simp [hm, hm0, hm1]
      · rename_i h1
        have h1 : ¬ n % 2 = 1 := by simpa using h1
        simp only [Option.map_eq_some_iff] at h
        obtain ⟨l, hl, rfl⟩ := h
        have ih := HT.get_set f _ _ _ _ hl
        simp only [HT.get_node, HT.get_leaf]
        by_cases hm : m = n
        · subst hm; simp [h0, h1, ih]
        · by_cases hm0 : m = 0
          · subst hm0; simp [hm]
          · by_cases hm1 : m % 2 = 1
            · simp [hm, hm0, hm1]
            · simp [hm, hm0, hm1, ih, HT.get_leaf]; omega
  | f + 1, .node o0 l0 r0, t', n, o, h => by
    intro m
    simp only [HT.set_node] at h
    split at h
    · rename_i h0
      cases h
      have : n = 0 := by simpa using h0
      subst this
      by_cases hm : m = 0
      · subst hm; simp [HT.get_node]
      · simp [HT.get_node, hm]
    · rename_i h0
      have h0 : n ≠ 0 := by simpa using h0
      split at h
      · rename_i h1
        have h1 : n % 2 = 1 := by simpa using h1
        simp only [Option.map_eq_some_iff] at h
        obtain ⟨l, hl, rfl⟩ := h
        have ih := HT.get_set f _ _ _ _ hl
        simp only [HT.get_node]
        by_cases hm : m = n
        · subst hm; simp [h0, h1, ih]
        · by_cases hm0 : m = 0
          · subst hm0; simp [hm]
          · by_cases hm1 : m % 2 = 1
            · have : m / 2 ≠ n / 2 := by omega
              simp [hm, hm0, hm1, ih, this]
            · simp [hm, hm0, hm1]
      · rename_i h1
        have h1 : ¬ n % 2 = 1 := by simpa using h1
        simp only [Option.map_eq_some_iff] at h
        obtain ⟨l, hl, rfl⟩ := h
        have ih := HT.get_set f _ _ _ _ hl
        simp only [HT.get_node]
        by_cases hm : m = n
        · subst hm; simp [h0, h1, ih]
        · by_cases hm0 : m = 0
          · subst hm0; simp [hm]
          · by_cases hm1 : m % 2 = 1
            · simp [hm, hm0, hm1]
            · have : m / 2 - 1 ≠ n / 2 - 1 := by omega
              simp [hm, hm0, hm1, ih, this]

structure EH where
  n : Nat
  low : Nat
  t : HT
noncomputable def EH.ah (h : EH) : AH := (Array.range h.n).map h.t.get
noncomputable def EH.get? (h : EH) (b : Nat) : Option AObj := cond (Nat.blt b h.n) (some (h.t.get b)) none
/-- The kernel makes a numeral of it first. -/
noncomputable def forceN {α : Type} (n : Nat) (k : Nat → α) : α := Nat.rec (motive := fun _ => (Nat → α) → α) (fun k => k 0) (fun m _ k => k (Nat.succ m)) n k
theorem forceN_eq {α : Type} (n : Nat) (k : Nat → α) : forceN n k = k n := by cases n <;> rfl
/-- The kernel makes a list of it first. -/
noncomputable def forceL {α β : Type} (l : List α) (k : List α → β) : β := List.rec (motive := fun _ => (List α → β) → β) (fun k => k []) (fun v _ ih k => ih (fun t => k (v :: t))) l k
theorem forceL_eq {α β : Type} (l : List α) : ∀ (k : List α → β), forceL l k = k l := by
  induction l with
  | nil => intro k; rfl
  | cons v l ih => intro k; exact ih (fun t => k (v :: t))
noncomputable def EH.push (h : EH) (o : AObj) : Option EH := EH.casesOn h fun n low t => forceN (Nat.add n 1) fun n1 => (HT.set 64 t n o).map fun t => ⟨n1, low, t⟩
noncomputable def EH.set (h : EH) (b : Nat) (o : AObj) : Option EH := EH.casesOn h fun n low t => cond (Nat.blt b n) ((HT.set 64 t b o).map fun t => cond (Nat.ble low b) ⟨n, low, t⟩ ⟨n, b, t⟩) none
theorem nblt (a b : Nat) : Nat.blt a b = decide (a < b) := by
  cases h : Nat.blt a b with
  | true => have := Nat.le_of_ble_eq_true h; simp; omega
  | false => have := Nat.not_le_of_not_ble_eq_true (by rw [show Nat.ble (a + 1) b = false from h]; simp); simp; omega
theorem EH.get_eq (h : EH) (b : Nat) : h.get? b = if b < h.n then some (h.t.get b) else none := by
  unfold EH.get?
  rw [nblt, Bool.cond_decide]
theorem EH.push_eq (h : EH) (o : AObj) : h.push o = (HT.set 64 h.t h.n o).map fun t => ⟨h.n + 1, h.low, t⟩ := by
  obtain ⟨n, low, t⟩ := h
  exact forceN_eq (Nat.add n 1) fun n1 => (HT.set 64 t n o).map fun t => (⟨n1, low, t⟩ : EH)
theorem EH.set_eq (h : EH) (b : Nat) (o : AObj) : h.set b o = if b < h.n then (HT.set 64 h.t b o).map fun t => ⟨h.n, Nat.min h.low b, t⟩ else none := by
  obtain ⟨n, low, t⟩ := h
  unfold EH.set
  simp only [nblt, Bool.cond_decide]
  have : ∀ t : HT, (cond (Nat.ble low b) ⟨n, low, t⟩ ⟨n, b, t⟩ : EH) = ⟨n, Nat.min low b, t⟩ := fun t => by
    cases hc : Nat.ble low b with
    | true => have := Nat.le_of_ble_eq_true hc; simp [show Nat.min low b = low from Nat.min_eq_left this]
    | false => have := Nat.not_le_of_not_ble_eq_true (by rw [hc]; simp); simp [show Nat.min low b = b from Nat.min_eq_right (by omega)]
  simp only [this]
theorem EH.size_ah (h : EH) : h.ah.size = h.n := by simp [EH.ah]
theorem EH.get_ah (h : EH) (b : Nat) : h.ah[b]? = h.get? b := by
  unfold EH.ah
  rw [EH.get_eq, Array.getElem?_map, Array.getElem?_range]
  by_cases hb : b < h.n
  · simp [hb]
  · simp [hb]
theorem EH.push_ah {h h' : EH} {o : AObj} (hp : h.push o = some h') : h'.ah = h.ah.push o ∧ h'.low = h.low ∧ h'.n = h.n + 1 := by
  simp only [EH.push_eq, Option.map_eq_some_iff] at hp
  obtain ⟨t, ht, rfl⟩ := hp
  refine ⟨?_, rfl, rfl⟩
  apply Array.ext_getElem?
  intro b
  rw [EH.get_ah, Array.getElem?_push, EH.size_ah, EH.get_ah]
  simp only [EH.get_eq, HT.get_set _ _ _ _ _ ht]
  by_cases h1 : b = h.n
  · subst h1; simp
  · by_cases h2 : b < h.n
    · simp [h1, h2, show b < h.n + 1 by omega]
    · simp [h1, h2, show ¬ b < h.n + 1 by omega]
theorem EH.set_ah {h h' : EH} {b : Nat} {o : AObj} (hp : h.set b o = some h') : h'.ah = h.ah.setIfInBounds b o ∧ h'.low = Nat.min h.low b ∧ h'.n = h.n ∧ b < h.n := by
  rw [EH.set_eq] at hp
  split at hp
  · rename_i hb
    simp only [Option.map_eq_some_iff] at hp
    obtain ⟨t, ht, rfl⟩ := hp
    refine ⟨?_, rfl, rfl, hb⟩
    apply Array.ext_getElem?
    intro c
    rw [EH.get_ah, Array.getElem?_setIfInBounds, EH.size_ah, EH.get_ah]
    simp only [EH.get_eq, HT.get_set _ _ _ _ _ ht]
    by_cases h1 : b = c
    · subst h1; simp [hb]
    · have : ¬ c = b := fun h => h1 h.symm
      simp [h1, this]
  · cases hp

/-! ### Operations over the tree -/
def cellO (x : Option AObj) (o : Nat) : Option Value := match x with | some (.cells c) => c[o]? | _ => none
def cellsO (x : Option AObj) (o n : Nat) : Option (List Value) := match x with | some (.cells c) => if o + n ≤ c.length then some ((c.drop o).take n) else none | _ => none
noncomputable def setE (lo : Nat) (h : EH) (b o : Nat) (vs : List Value) : Option EH :=
  match h.get? b with
  | some (.cells c) => if lo ≤ b ∧ o + vs.length ≤ c.length then h.set b (.cells (splice c o vs)) else none
  | _ => none
noncomputable def elemsE (h : EH) (esize : Nat) (x : Value) : Option (Nat × List Value) :=
  match x with
  | .slice none n _ => if n = 0 then some (0, []) else none
  | .slice (some ⟨b, o, none⟩) n _ => (cellsO (h.get? b) o (n * esize)).map fun c => (n, c)
  | _ => none
noncomputable def pushV (v : Value) (h : EH) (o : AObj) : Option (Value × EH) := (h.push o).map fun h => (v, h)
noncomputable def appendE (lo : Nat) (h : EH) (esize bytes : Nat) (s x : Value) : Option (Value × EH) :=
  match elemsE h esize x with
  | none => none
  | some (n, new) =>
    match s with
    | .slice none sl sc =>
      if sl = 0 ∧ sc = 0 then
        (if n = 0 then some (.slice none 0 0, h)
         else if fits n bytes then pushV (.slice (some ⟨h.n, 0, none⟩) n (openCap + esize)) h (.cells new) else none)
      else none
    | .slice (some ⟨b, o, none⟩) sl sc =>
      if n = 0 then (if sl ≤ sc then some (.slice (some ⟨b, o, none⟩) sl sc, h) else none)
      else if openCap ≤ sc then
        match h.get? b with
        | some (.cells c) =>
          if sc = openCap + esize ∧ esize ≠ 0 ∧ lo ≤ b ∧ o + sl * esize = c.length ∧ fits (sl + n) bytes = true ∧ new.all scal = true then
            (h.set b .junk).bind fun h1 => pushV (.slice (some ⟨h.n, 0, none⟩) (sl + n) (openCap + esize)) h1 (.cells (c.drop o ++ new))
          else none
        | _ => none
      else if sl + n ≤ sc then
        if new.all scal = true then (setE lo h b (o + sl * esize) new).map fun h' => (.slice (some ⟨b, o, none⟩) (sl + n) sc, h') else none
      else
        match cellsO (h.get? b) o (sl * esize) with
        | some old => if fits (sl + n) bytes then pushV (.slice (some ⟨h.n, 0, none⟩) (sl + n) (openCap + esize)) h (.cells (old ++ new)) else none
        | none => none
    | _ => none
noncomputable def mapE (h : EH) (m : Value) : Option (List (Value × Value × Nat)) :=
  match m with
  | .map none => some []
  | .map (some r) => (match h.get? r with | some (.map es _) => some es | _ => none)
  | _ => none

noncomputable def eop (lo : Nat) (op : AOp) (fr : Fr) (h : EH) : Option (Value × EH) :=
  match op with
  | .alloc z => pushV (ptr h.n 0) h (.cells z)
  | .box x => pushV (ptr h.n 0) h (.cells (x.ev fr).cells.toList)
  | .buildSlice n z ps => (fillL (ps.map fun p => (p.1, p.2.1, p.2.2.ev fr)) z).bind fun c => pushV (.slice (some ⟨h.n, 0, none⟩) n n) h (.cells c)
  | .load none a => match a.ev fr with | .pointer (some ⟨b, o, none⟩) => (cellO (h.get? b) o).map fun v => (v, h) | _ => none
  | .load (some n) a => match a.ev fr with | .pointer (some ⟨b, o, none⟩) => (cellsO (h.get? b) o n).map fun c => (.agg c.toArray, h) | _ => none
  | .store n a x => match a.ev fr with
    | .pointer (some ⟨b, o, none⟩) =>
      if (x.ev fr).cells.size = n ∧ (x.ev fr).cells.toList.all scal = true then (setE lo h b o (x.ev fr).cells.toList).map fun h' => (undef, h') else none
    | _ => none
  | .makeMap => pushV (.map (some h.n)) h (.map [] 0)
  | .makeSlice z bytes len cap => match len.ev fr, cap.ev fr with
    | .int .i64 l, .int .i64 c =>
      if 0 ≤ l ∧ l ≤ c ∧ c.toNat * bytes ≤ 2 ^ 40 ∧ c.toNat ≤ 2 ^ 40 then
        pushV (.slice (some ⟨h.n, 0, none⟩) l.toNat c.toNat) h (.cells ((List.range (c.toNat * z.length)).map fun i => z.getD (i % z.length) undef))
      else none
    | _, _ => none
  | .lookup flat z ok m k =>
    match mapE h (m.ev fr) with
    | none => none
    | some es => if keyOk flat (k.ev fr) = false then none else (findK flat (k.ev fr) es 0).map fun f => (lookRes ok z f, h)
  | .mapUpdate flat m k x => match m.ev fr with
    | .map (some r) => if lo ≤ r ∧ keyOk flat (k.ev fr) = true then (match h.get? r with
      | some (.map es clock) => (findK flat (k.ev fr) es 0).bind fun f => (match f with
        | some (i, _) => h.set r (.map (es.modify i fun e => (k.ev fr, x.ev fr, e.2.2)) clock)
        | none => h.set r (.map (es ++ [(k.ev fr, x.ev fr, clock)]) (clock + 1))).map fun h' => (undef, h')
      | _ => none) else none
    | _ => none
  | .mapEntry flat z m k => match m.ev fr with
    | .map (some r) => if lo ≤ r ∧ keyOk flat (k.ev fr) = true then (match h.get? r with
      | some (.map es clock) => (findK flat (k.ev fr) es 0).bind fun f => (match f with
        | some (i, v) => (h.set r (.map (es.modify i fun e => (k.ev fr, e.2)) clock)).map fun h' => (.tuple #[v, .int .i64 (((es[i]?).map (·.2.2)).getD 0)], h')
        | none => (h.set r (.map (es ++ [(k.ev fr, z, clock)]) (clock + 1))).map fun h' => (.tuple #[z, .int .i64 clock], h'))
      | _ => none) else none
    | _ => none
  | .entryStore m s x => match m.ev fr, s.ev fr with
    | .map (some r), .int _ born => if lo ≤ r then (match h.get? r with
      | some (.map es clock) => (match es.findIdx? (fun e => (e.2.2 : Int) == born) with
        | some i => (h.set r (.map (es.modify i fun e => (e.1, x.ev fr, e.2.2)) clock)).map fun h' => (undef, h')
        | none => none)
      | _ => none) else none
    | _, _ => none
  | .append e bytes s x => appendE lo h e bytes (s.ev fr) (x.ev fr)
  | op => (aop lo op fr #[]).map fun p => (p.1, h)

/-- What a step does to the tree: blocks below 'low' stay. -/
structure EStep (h h1 : EH) : Prop where
  n : h.n ≤ h1.n
  low : h1.low ≤ h.low
  keep : ∀ b, b < h.n → b < h1.low → h1.ah[b]? = h.ah[b]?
theorem EStep.refl (h : EH) : EStep h h := ⟨Nat.le_refl _, Nat.le_refl _, fun _ _ _ => rfl⟩
theorem EStep.trans {h h1 h2 : EH} (a : EStep h h1) (b : EStep h1 h2) : EStep h h2 :=
  ⟨Nat.le_trans a.n b.n, Nat.le_trans b.low a.low, fun c h1 h2 => by rw [b.keep c (Nat.lt_of_lt_of_le h1 a.n) h2, a.keep c h1 (Nat.lt_of_lt_of_le h2 b.low)]⟩
theorem EStep.push {h h1 : EH} {o : AObj} (hp : h.push o = some h1) : EStep h h1 := by
  obtain ⟨e1, e2, e3⟩ := EH.push_ah hp
  refine ⟨by omega, by omega, fun b hb _ => ?_⟩
  rw [e1, Array.getElem?_push, if_neg (by rw [EH.size_ah]; omega)]
theorem EStep.set {h h1 : EH} {b : Nat} {o : AObj} (hp : h.set b o = some h1) : EStep h h1 := by
  obtain ⟨e1, e2, e3, _⟩ := EH.set_ah hp
  have hm : h1.low ≤ h.low := by rw [e2]; exact Nat.min_le_left _ _
  have hb' : h1.low ≤ b := by rw [e2]; exact Nat.min_le_right _ _
  refine ⟨by omega, hm, fun c hb hl => ?_⟩
  rw [e1, Array.getElem?_setIfInBounds_ne (by omega)]

def Good (lo : Nat) (op : AOp) (fr : Fr) (h : EH) (v : Value) (h1 : EH) : Prop := aop lo op fr h.ah = some (v, h1.ah) ∧ EStep h h1
theorem good_push {lo : Nat} {op : AOp} {fr : Fr} {h h1 : EH} {v v1 : Value} {o : AObj} (hp : pushV v h o = some (v1, h1)) (ha : aop lo op fr h.ah = some (v, h.ah.push o)) : Good lo op fr h v1 h1 := by
  simp only [pushV, Option.map_eq_some_iff, Prod.mk.injEq] at hp
  obtain ⟨h', hp, rfl, rfl⟩ := hp
  exact ⟨by rw [ha, (EH.push_ah hp).1], .push hp⟩
theorem setE_ah {lo : Nat} {h h1 : EH} {b o : Nat} {vs : List Value} (hs : setE lo h b o vs = some h1) : setCells lo h.ah b o vs = some h1.ah ∧ EStep h h1 := by
  unfold setE at hs
  unfold setCells
  rw [EH.get_ah]
  split at hs
  · rename_i c hc
    split at hs
    · rename_i hcond
      simp only [hc, if_pos hcond]
      exact ⟨by rw [(EH.set_ah hs).1], .set hs⟩
    · cases hs
  · cases hs
theorem elemsE_ah (h : EH) (e : Nat) (x : Value) : elemsE h e x = elemsOf h.ah e x := by
  unfold elemsE elemsOf cellsO cellsAt
  simp only [EH.get_ah]
  rfl
theorem appendE_ah {lo : Nat} {h h1 : EH} {e bytes : Nat} {s x v : Value} (hv : appendE lo h e bytes s x = some (v, h1)) : appendA lo h.ah e bytes s x = some (v, h1.ah) ∧ EStep h h1 := by
  unfold appendE at hv
  rw [elemsE_ah] at hv
  unfold appendA
  have hpush : ∀ {v v1 : Value} {h h1 : EH} {o : AObj}, pushV v h o = some (v1, h1) → v1 = v ∧ h1.ah = h.ah.push o ∧ EStep h h1 := by
    intro v v1 h h1 o hp
    simp only [pushV, Option.map_eq_some_iff, Prod.mk.injEq] at hp
    obtain ⟨h', hp, rfl, rfl⟩ := hp
    exact ⟨rfl, (EH.push_ah hp).1, .push hp⟩
  split at hv
  · cases hv
  · rename_i n new he
    simp only [he]
    split at hv
    · rename_i sl sc
      split at hv
      · rename_i hc
        simp only [if_pos hc]
        split at hv
        · rename_i hn; cases hv; simp only [if_pos hn]; exact ⟨trivial, .refl _⟩
        · rename_i hn
          simp only [if_neg hn]
          split at hv
          · rename_i hf
            obtain ⟨rfl, h2, h3⟩ := hpush hv
            simp only [if_pos hf, EH.size_ah, h2]; exact ⟨trivial, h3⟩
          · cases hv
      · cases hv
    · rename_i b o sl sc
      split at hv
      · rename_i hn
        simp only [if_pos hn]
        split at hv
        · rename_i hl; cases hv; simp only [if_pos hl]; exact ⟨trivial, .refl _⟩
        · cases hv
      · rename_i hn
        simp only [if_neg hn]
        split at hv
        · rename_i hoc
          simp only [if_pos hoc, EH.get_ah]
          split at hv
          · rename_i c hc
            simp only [hc]
            split at hv
            · rename_i hcond
              simp only [if_pos hcond]
              simp only [Option.bind_eq_some_iff] at hv
              obtain ⟨h', hk, hv⟩ := hv
              obtain ⟨rfl, h2, h3⟩ := hpush hv
              obtain ⟨k1, k2, k3, _⟩ := EH.set_ah hk
              simp only [EH.size_ah, h2, k1]
              exact ⟨trivial, (EStep.set hk).trans h3⟩
            · cases hv
          · cases hv
        · rename_i hoc
          simp only [if_neg hoc]
          split at hv
          · rename_i hle
            simp only [if_pos hle]
            split at hv
            · rename_i hsc
              simp only [if_pos hsc]
              simp only [Option.map_eq_some_iff, Prod.mk.injEq] at hv
              obtain ⟨h', hk, rfl, rfl⟩ := hv
              obtain ⟨k1, k2⟩ := setE_ah hk
              simp only [k1, Option.map_some]; exact ⟨trivial, k2⟩
            · cases hv
          · rename_i hle
            simp only [if_neg hle]
            have : cellsAt h.ah b o (sl * e) = cellsO (h.get? b) o (sl * e) := by unfold cellsAt cellsO; rw [EH.get_ah]; rfl
            rw [this]
            split at hv
            · rename_i old ho
              simp only [ho]
              split at hv
              · rename_i hf
                obtain ⟨rfl, h2, h3⟩ := hpush hv
                simp only [if_pos hf, EH.size_ah, h2]; exact ⟨trivial, h3⟩
              · cases hv
            · cases hv
    · cases hv

theorem eop_good {lo : Nat} {op : AOp} {fr : Fr} {h h1 : EH} {v : Value} (hv : eop lo op fr h = some (v, h1)) : Good lo op fr h v h1 := by
  have other : op.mem = false → (aop lo op fr #[]).map (fun p => (p.1, h)) = some (v, h1) → Good lo op fr h v h1 := by
    intro hm ho
    simp only [Option.map_eq_some_iff, Prod.mk.injEq] at ho
    obtain ⟨⟨v', h'⟩, ho, rfl, rfl⟩ := ho
    exact ⟨aop_blind hm ho _, .refl _⟩
  cases op
  case alloc z => exact good_push hv (by simp only [aop, EH.size_ah])
  case box x => exact good_push hv (by simp only [aop, EH.size_ah])
  case buildSlice n z ps =>
    simp only [eop, Option.bind_eq_some_iff] at hv
    obtain ⟨c, hc, hv⟩ := hv
    exact good_push hv (by simp only [aop, EH.size_ah, hc, Option.map_some])
  case load agg a =>
    cases agg <;> simp only [eop] at hv <;> split at hv <;> simp only [Option.map_eq_some_iff, Prod.mk.injEq, reduceCtorEq] at hv
    · rename_i b o ha
      obtain ⟨c, hc, rfl, rfl⟩ := hv
      have : cellAt h.ah b o = some c := by rw [← hc]; unfold cellAt cellO; rw [EH.get_ah]; rfl
      exact ⟨by simp only [aop, ha, this, Option.map_some], .refl _⟩
    · rename_i n _ b o ha
      obtain ⟨c, hc, rfl, rfl⟩ := hv
      have : cellsAt h.ah b o n = some c := by rw [← hc]; unfold cellsAt cellsO; rw [EH.get_ah]; rfl
      exact ⟨by simp only [aop, ha, this, Option.map_some], .refl _⟩
  case store n a x =>
    simp only [eop] at hv
    split at hv
    · rename_i b o ha
      split at hv
      · rename_i hc
        simp only [Option.map_eq_some_iff, Prod.mk.injEq] at hv
        obtain ⟨h', hs, rfl, rfl⟩ := hv
        obtain ⟨k1, k2⟩ := setE_ah hs
        exact ⟨by simp only [aop, ha, if_pos hc, k1, Option.map_some], k2⟩
      · cases hv
    · cases hv
  case makeMap => exact good_push hv (by simp only [aop, EH.size_ah])
  case makeSlice z bytes len cap =>
    simp only [eop] at hv
    split at hv
    · rename_i l c hl hc
      split at hv
      · rename_i hcond
        exact good_push hv (by simp only [aop, EH.size_ah, hl, hc, if_pos hcond])
      · cases hv
    · cases hv
  case lookup flat z ok m k =>
    simp only [eop] at hv
    have hm : mapE h (m.ev fr) = mapEs h.ah (m.ev fr) := by unfold mapE mapEs; simp only [EH.get_ah]; rfl
    rw [hm] at hv
    split at hv
    · cases hv
    · rename_i es hes
      split at hv
      · cases hv
      · rename_i hk
        simp only [Option.map_eq_some_iff, Prod.mk.injEq] at hv
        obtain ⟨f, hf, rfl, rfl⟩ := hv
        exact ⟨by simp only [aop, hes, if_neg hk, hf, Option.map_some], .refl _⟩
  case mapUpdate flat m k x =>
    simp only [eop] at hv
    split at hv
    · rename_i r hr
      split at hv
      · rename_i hc
        split at hv
        · rename_i es clock hes
          simp only [Option.bind_eq_some_iff, Option.map_eq_some_iff, Prod.mk.injEq] at hv
          obtain ⟨f, hf, h', hs, rfl, rfl⟩ := hv
          have hes' : h.ah[r]? = some (.map es clock) := by rw [EH.get_ah]; exact hes
          cases f with
          | none => exact ⟨by simp only [aop, hr, if_pos hc, hes', hf, Option.map_some, updMap, (EH.set_ah hs).1], .set hs⟩
          | some p => exact ⟨by simp only [aop, hr, if_pos hc, hes', hf, Option.map_some, updMap, (EH.set_ah hs).1], .set hs⟩
        · cases hv
      · cases hv
    · cases hv
  case mapEntry flat z m k =>
    simp only [eop] at hv
    split at hv
    · rename_i r hr
      split at hv
      · rename_i hc
        split at hv
        · rename_i es clock hes
          simp only [Option.bind_eq_some_iff] at hv
          obtain ⟨f, hf, hv⟩ := hv
          have hes' : h.ah[r]? = some (.map es clock) := by rw [EH.get_ah]; exact hes
          cases f with
          | none =>
            simp only [Option.map_eq_some_iff, Prod.mk.injEq] at hv
            obtain ⟨h', hs, rfl, rfl⟩ := hv
            exact ⟨by simp only [aop, hr, if_pos hc, hes', hf, Option.map_some, entMap, (EH.set_ah hs).1], .set hs⟩
          | some p =>
            simp only [Option.map_eq_some_iff, Prod.mk.injEq] at hv
            obtain ⟨h', hs, rfl, rfl⟩ := hv
            exact ⟨by simp only [aop, hr, if_pos hc, hes', hf, Option.map_some, entMap, (EH.set_ah hs).1], .set hs⟩
        · cases hv
      · cases hv
    · cases hv
  case entryStore m s x =>
    simp only [eop] at hv
    split at hv
    · rename_i r k born hr hb
      split at hv
      · rename_i hc
        split at hv
        · rename_i es clock hes
          split at hv
          · rename_i i hi
            simp only [Option.map_eq_some_iff, Prod.mk.injEq] at hv
            obtain ⟨h', hs, rfl, rfl⟩ := hv
            have hes' : h.ah[r]? = some (.map es clock) := by rw [EH.get_ah]; exact hes
            exact ⟨by simp only [aop, hr, hb, if_pos hc, hes', hi, (EH.set_ah hs).1], .set hs⟩
          · cases hv
        · cases hv
      · cases hv
    · cases hv
  case append e bytes s x =>
    simp only [eop] at hv
    obtain ⟨k1, k2⟩ := appendE_ah hv
    exact ⟨by simp only [aop, k1], k2⟩
  case call f as => simp [eop, aop] at hv
  case bad => simp [eop, aop] at hv
  all_goals exact other rfl hv

end Go.RS

