/- Each operation of the abstract machine is followed by the real one (3): values. -/
import Derived.Test.YtidnkmbicedmjaaDoorSimD
namespace Go.RS
open Go

section
variable {P : Program} {lo n0 : Nat} {β : Bij} {h h1 : AH} {w : World} {fr : Fr} {a : Act}

theorem mapM_run {α γ : Type} (g : α → Sem γ) (f : α → γ) (w : World) : ∀ (l : List α), (∀ x ∈ l, (g x).run P w = .ok (f x) w) → (l.mapM g).run P w = .ok (l.map f) w
  | [], _ => by simp
  | x :: l, h => by
    simp only [List.mapM_cons, Sem.run_bind, h x (by simp), Result.andThen_ok, mapM_run g f w l (fun y hy => h y (by simp [hy])), List.map_cons, Sem.run_pure]
theorem amapM_run {α γ : Type} (g : α → Sem γ) (f : α → γ) (w : World) (l : Array α) (h : ∀ x ∈ l, (g x).run P w = .ok (f x) w) : (l.mapM g).run P w = .ok (l.map f) w := by
  rw [Array.mapM_eq_mapM_toList, Sem.run_map, mapM_run g f w l.toList (fun x hx => h x (by simpa using hx))]
  simp [← Array.toList_map]

theorem op_build (R : HRel P lo n0 β h w) (F : FRel β fr a.tmps) {t : TypeId} {z : Value} {place : Nat → Option (Nat × Nat)} {parts : Array (Nat × Operand)} {qs : List (Nat × Nat × Opd)} {c : List Value}
    (hz : zeroOf P t = some z) (hpl : placesOf P t = some place) (hp : lowParts P place parts.toList = some qs) (hc : z.cells.all closedS = true)
    (hf : fillL (qs.map fun p => (p.1, p.2.1, p.2.2.ev fr)) z.cells.toList = some c) :
    VSim P lo n0 β h w (.agg c.toArray) h ((Instr.build t (parts.map fun (i, x) => (i, a.eval x))).run P w) := by
  obtain ⟨d, hd, hcd⟩ := fill_rel R F hp (closedL_rel (β := β) (by simpa using hc)) hf
  refine .quiet R (.agg' (by simpa using hcd)) ?_
  have e1 : (parts.map fun (i, x) => (i, a.eval x)).toList = parts.toList.map fun (i, x) => (i, a.eval x) := by simp
  simp only [placesOf, Option.bind_eq_some_iff] at hpl
  obtain ⟨desc, hdesc, hpl⟩ := hpl
  simp only [Instr.build, Sem.run_bind, zeroOf_run hz, Result.andThen_ok, run_underlying hdesc, e1]
  cases desc with
  | struct fs =>
    simp only at hpl
    split at hpl
    · rename_i hall
      cases hpl
      have hsz : ∀ f ∈ fs, szOf P f.type = some ((szOf P f.type).getD 0) := fun f hf => by
        have := Array.all_eq_true_iff_forall_mem.1 hall f hf
        simp only [szOf]
        cases hi : P.info? f.type with
        | none => rw [hi] at this; cases this
        | some i => rfl
      have hm := amapM_run (P := P) (fun f : Field => do pure (f.offset, ← sizeOf f.type)) (fun f => (f.offset, (szOf P f.type).getD 0)) w fs (fun f hf => by
        simp only [Sem.run_bind, szOf_run (hsz f hf), Result.andThen_ok, Sem.run_pure])
      have hplace : (fun i : Nat => (fs.map fun f : Field => (f.offset, (szOf P f.type).getD 0))[i]?) = fun i : Nat => (fs[i]?).bind fun f => (szOf P f.type).map fun s => (f.offset, s) := by
        funext i
        rw [Array.getElem?_map]
        cases hi : fs[i]? with
        | none => rfl
        | some f =>
          rw [Option.map_some, Option.bind_some, hsz f (Array.mem_of_getElem? hi)]
          rfl
      simp only [Sem.run_bind, hm, Result.andThen_ok]
      rw [hplace]
      have hd' : Instr.fill (fun i => (fs[i]?).bind fun f => (szOf P f.type).map fun s => (f.offset, s)) z.cells (parts.toList.map fun (i, x) => (i, a.eval x)) = some d.toArray := by simpa using hd
      rw [hd']; rfl
    · cases hpl
  | array n e =>
    simp only [Option.map_eq_some_iff] at hpl
    obtain ⟨s, hs, rfl⟩ := hpl
    simp only [Sem.run_bind, szOf_run hs, Result.andThen_ok]
    have hd' : Instr.fill (fun i => some (i * s, s)) z.cells (parts.toList.map fun (i, x) => (i, a.eval x)) = some d.toArray := by simpa using hd
    rw [hd']; rfl
  | _ => cases hpl

theorem op_buildSlice (R : HRel P lo n0 β h w) (F : FRel β fr a.tmps) {t e : TypeId} {s n : Nat} {z : Value} {parts : Array (Nat × Operand)} {qs : List (Nat × Nat × Opd)} {c : List Value}
    (ht : P.underlying t = some (.slice e)) (hs : szOf P e = some s) (hz : zeroOf P e = some z) (hp : lowParts P (fun i => some (i * s, s)) parts.toList = some qs)
    (hc : z.cells.all closedS = true) (hns : n * s ≤ 2 ^ 24) (hzs : z.cells.size = s) (hs0 : s ≠ 0) (hno : n < openCap)
    (hf : fillL (qs.map fun p => (p.1, p.2.1, p.2.2.ev fr)) ((List.range (n * s)).map fun i => z.cells.toList.getD (i % s) undef) = some c) :
    VSim P lo n0 β h w (.slice (some ⟨h.size, 0, none⟩) n n) (h.push (.cells c)) ((Instr.buildSlice t n (parts.map fun (i, x) => (i, a.eval x))).run P w) := by
  have hzz : LRel β ((List.range (n * s)).map fun i => z.cells.toList.getD (i % s) undef) ((Array.range (n * s)).map fun i => z.cells[i % z.cells.size]!).toList := by
    rw [Array.toList_map, Array.toList_range]
    refine .map fun i hi => ?_
    have hlt : i % s < z.cells.size := by rw [hzs]; exact Nat.mod_lt _ (Nat.pos_of_ne_zero hs0)
    rw [hzs, getElem!_pos z.cells (i % s) hlt, List.getD_eq_getElem?_getD, List.getElem?_eq_getElem (by simpa using hlt)]
    simp only [Array.getElem_toList, Option.getD_some]
    refine closedS_rel ?_
    have := Array.all_eq_true_iff_forall_mem.1 hc z.cells[i % s] (Array.getElem_mem hlt)
    exact this
  obtain ⟨d, hd, hcd⟩ := fill_rel R F hp hzz hf
  refine .new R (o' := .cells d.toArray e (0, 0)) (cells_new (by simpa using hcd)) (.sl (a' := ⟨w.heap.size, 0, none⟩) arel_new ⟨hno, .inl ⟨hno, rfl, Nat.le_refl _⟩⟩) ?_
  have e1 : (parts.map fun (i, x) => (i, a.eval x)).toList = parts.toList.map fun (i, x) => (i, a.eval x) := by simp
  rw [Array.toArray_toList] at hd
  simp only [Instr.buildSlice, Sem.run_bind, run_underlying ht, Result.andThen_ok, szOf_run hs, e1]
  rw [if_neg (by omega)]
  by_cases h0 : n * s = 0
  · have e0 : ∀ f : Nat → Value, (Array.range (n * s)).map f = #[] := by intro f; rw [h0]; apply Array.eq_empty_of_size_eq_zero; simp
    rw [e0] at hd
    rw [if_pos h0]
    simp only [Sem.run_bind, Sem.run_pure, Result.andThen_ok]
    rw [e0, hd]
    simp only [newRow, Sem.run_bind, run_newObj, Result.andThen_ok, Sem.run_pure]
  · rw [if_neg h0]
    simp only [Sem.run_bind, zeroOf_run hz, Result.andThen_ok, Sem.run_pure]
    rw [hd]
    simp only [newRow, Sem.run_bind, run_newObj, Result.andThen_ok, Sem.run_pure]

/-! ### Arithmetic and comparisons -/
theorem guard_run (op : BinOp) (t : TypeId) (x y : Operand) (u v : Value) (hu : (match u with | .agg _ | .nilIface => false | _ => true) = true) :
    (eqGuard op t x y u v).run P w = .ok () w := by
  unfold eqGuard
  cases op <;> simp only [Bool.not_true, Bool.not_false, if_true, if_false, Bool.false_eq_true, Sem.run_pure] <;> first | rfl | (cases u <;> first | rfl | cases hu)

theorem op_bin (R : HRel P lo n0 β h w) {op : BinOp} {t : TypeId} {x y : Operand} {u v u' v' r : Value} (hu : VRel β u u') (hv : VRel β v v') (hr : binA op u v = some r) :
    VSim P lo n0 β h w r h ((do eqGuard op t x y u' v'; binOp op t u' v').run P w) := by
  unfold binA at hr
  split at hr
  · rename_i k m k' n
    split at hr
    · rename_i hk; subst hk
      rw [hu.int_inv, hv.int_inv]
      have key : ∃ r', (binOp op t (.int k m) (.int k n)).run P w = .ok r w ∧ r' = r ∧ VRel β r r := by
        cases op <;> simp only [binInt, Option.some.injEq] at hr <;> first
          | (cases hr; done)
          | (subst hr; exact ⟨_, rfl, rfl, by first | exact .int _ _ | exact .bool _⟩)
          | (subst hr; refine ⟨_, ?_, rfl, by first | exact .int _ _ | exact .bool _⟩; simp [binOp, Op.intArith, Op.intCmp])
          | (split at hr
             · cases hr
             · rename_i hn
               cases hr
               refine ⟨_, ?_, rfl, .int _ _⟩
               simp [binOp, Op.intDiv, hn])
      obtain ⟨r', h2, rfl, h4⟩ := key
      refine .quiet R h4 ?_
      simp only [Sem.run_bind, guard_run (P := P) (w := w) op t x y (.int k m) (.int k n) rfl, Result.andThen_ok, h2]
    · cases hr
  · rename_i m n
    rw [hu.str_inv, hv.str_inv]
    have key : (binOp op t (.string m) (.string n)).run P w = .ok r w ∧ VRel β r r := by
      cases op <;> simp only [binStr, Option.some.injEq] at hr <;> first
        | (cases hr; done)
        | (subst hr; exact ⟨rfl, .bool _⟩)
        | (split at hr
           · rename_i hn
             cases hr
             refine ⟨?_, .string _⟩
             simp only [binOp, Op.stringOp]
             have hne : ¬ ((m.size + n.size : Nat) : Int) > IntKind.i64.max := by
               have : IntKind.i64.max = 9223372036854775807 := rfl
               rw [this]; omega
             rw [if_neg hne]; rfl
           · cases hr)
    refine .quiet R key.2 ?_
    simp only [Sem.run_bind, guard_run (P := P) (w := w) op t x y (.string m) (.string n) rfl, Result.andThen_ok, key.1]
  · cases hr

theorem isNil_inv {k : EqK} {u u' : Value} {b : Bool} (hu : VRel β u u') (hn : isNil k u = some b) : isNil k u' = some b := by
  cases k <;> cases hu <;> simp_all [isNil]
theorem neq_run {op : BinOp} {t : TypeId} {u v : Value} {b : Bool} (ho : op = .eql ∨ op = .neq) (hne : (match u, v with | .int _ _, _ | .float _ _, _ | .complex _ _ _, _ | .string _, _ => false | _, _ => true) = true)
    (he : (Op.equal t u v).run P w = .ok b w) : (binOp op t u v).run P w = .ok (.bool (if op = .neq then !b else b)) w := by
  rcases ho with rfl | rfl <;> cases u <;> first | (cases hne; done) | (simp only [binOp, Sem.run_bind, he, Result.andThen_ok, Sem.run_pure]; rfl)
end
end Go.RS
