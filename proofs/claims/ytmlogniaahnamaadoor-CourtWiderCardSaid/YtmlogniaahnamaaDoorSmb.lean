/- Each operation of the abstract machine is followed by the real one (8): append. -/
import Derived.Test.YtmlogniaahnamaaDoorSma
set_option linter.all false
namespace Go.RS
open Go

section
variable {P : Program} {lo n0 : Nat} {β : Bij} {h h1 : AH} {w : World} {fr : Fr} {a : Act}

theorem append_in {t u e eu ty : TypeId} {i : TypeInfo} (ht : P.underlying t = some (.slice e)) (hu : P.underlying u = some (.slice eu)) (hi : P.info? e = some i)
    {base : Option Addr} {sl sc n : Nat} {x : Value} {new : List Value} {w1 : World} (hl : (Builtin.lenOf x).run P w = .ok n w) (hf : (Builtin.firstCells i.size n x).run P w = .ok new.toArray w) (hn : sl + n ≤ sc)
    (hst : (match base with | some a => storeCells (a.add (sl * i.size)) new | none => pure () : Sem Unit).run P w = .ok () w1) :
    (Builtin.append_ #[t, u] ty #[.slice base sl sc, x]).run P w = .ok (.slice base (sl + n) sc) w1 := by
  have hsz : szOf P e = some i.size := by simp [szOf, hi]
  unfold Builtin.append_
  simp only [List.size_toArray, List.length_cons, List.length_nil, Nat.zero_add, Nat.reduceAdd, Nat.lt_add_one, getElem?_pos, Nat.zero_lt_succ, List.getElem_toArray, List.getElem_cons_zero, List.getElem_cons_succ]
  simp only [Sem.run_bind, run_underlying ht, Result.andThen_ok, szOf_run hsz, run_underlying hu, Sem.run_pure]
  simp only [Bool.false_eq_true, if_false, Sem.run_bind, hl, Result.andThen_ok, Bool.not_false, if_true]
  rw [if_pos hn]
  cases base with
  | none =>
    simp only [Sem.run_pure] at hst
    cases hst
    simp only [Sem.run_bind, hf, Result.andThen_ok, Sem.run_pure]
  | some b =>
    simp only at hst
    simp only [Sem.run_bind, hf, Result.andThen_ok, hst, Sem.run_pure]

theorem append_out {t u e eu ty : TypeId} {i : TypeInfo} {z : Value} (ht : P.underlying t = some (.slice e)) (hu : P.underlying u = some (.slice eu)) (hi : P.info? e = some i) (hiz : i.zero = some z)
    {base : Option Addr} {sl sc n : Nat} {x : Value} {old new : List Value} (hl : (Builtin.lenOf x).run P w = .ok n w) (hf : ∀ w2 : World, w2.heap = w.heap → (Builtin.firstCells i.size n x).run P w2 = .ok new.toArray w2)
    (ho : ∀ w2 : World, w2.heap = w.heap → (Builtin.firstCells i.size sl (.slice base sl sc)).run P w2 = .ok old.toArray w2) (hn : ¬ sl + n ≤ sc) (hfit : fits (sl + n) i.bytes = true) :
    ∃ cap k rest, (sl + n ≤ cap ∧ (old.length = sl * i.size → new.length = n * i.size → z.cells.size = i.size → cap * i.size ≤ (old.toArray ++ new.toArray ++ rest).size)) ∧ (Builtin.append_ #[t, u] ty #[.slice base sl sc, x]).run P w =
      .ok (.slice (some ⟨w.heap.size, 0, none⟩) (sl + n) cap) { w with drawn := k, heap := w.heap.push (.cells (old.toArray ++ new.toArray ++ rest) e (0, 0)) } := by
  have hsz : szOf P e = some i.size := by simp [szOf, hi]
  have hzv : zeroOf P e = some z := by simp [zeroOf, hi, hiz]
  obtain ⟨g1, g2, g3⟩ := fits_run (old := sc) hfit (by omega)
  have hq : (Question.appendCap (sl + n) sc e).forced = false := rfl
  have hbig : ¬ (((sl + n : Nat) : Int) > IntKind.i64.max ∧ i.bytes = 0) := fun hb => by omega
  refine ⟨(Question.appendCap (sl + n) sc e).cut (w.tape w.drawn (.appendCap (sl + n) sc e)), w.drawn + 1,
    Builtin.zeroCells z.cells ((Question.appendCap (sl + n) sc e).cut (w.tape w.drawn (.appendCap (sl + n) sc e)) - (sl + n)), ?_, ?_⟩
  · refine ⟨by simp only [Question.cut]; omega, fun g4 g5 g6 => ?_⟩
    simp only [Array.size_append, List.size_toArray, g4, g5, Builtin.zeroCells, Array.size_map, Array.size_range, g6, ← Nat.add_mul]
    exact Nat.mul_le_mul_right _ (by omega)
  unfold Builtin.append_
  simp only [List.size_toArray, List.length_cons, List.length_nil, Nat.zero_add, Nat.reduceAdd, Nat.lt_add_one, getElem?_pos, Nat.zero_lt_succ, List.getElem_toArray, List.getElem_cons_zero, List.getElem_cons_succ]
  simp only [Sem.run_bind, run_underlying ht, Result.andThen_ok, szOf_run hsz, run_underlying hu, Sem.run_pure]
  simp only [Bool.false_eq_true, if_false, Sem.run_bind, hl, Result.andThen_ok, Bool.not_false, if_true]
  rw [if_neg hn]
  simp only [Sem.run_bind, typeInfo, run_program, Result.andThen_ok, hi, Sem.run_pure, false_or, hbig, if_false, g1, run_choose, hq, Bool.false_eq_true, run_askRoom]
  rw [ho { w with drawn := w.drawn + 1 } rfl]
  simp only [Result.andThen_ok]
  rw [hf { w with drawn := w.drawn + 1 } rfl]
  simp only [Result.andThen_ok, zeroOf_run hzv, newRow, Sem.run_bind, run_newObj, Sem.run_pure]

theorem cells_prefix {β : Bij} {c c' : List Value} {e : TypeId} (h : LRel β c c') (rest : Array Value) : ORel P β True (.cells c) (some (.cells (c'.toArray ++ rest) e (0, 0))) (0, objSize (.cells (c'.toArray ++ rest) e (0, 0))) :=
  ⟨_, e, (0, 0), rfl, fun _ => rfl, rfl, fun i v hv => by
    obtain ⟨v', h1, h2⟩ := h.get hv
    refine ⟨v', ?_, h2⟩
    have hlt : i < c'.length := (List.getElem?_eq_some_iff.1 h1).1
    rw [Nat.zero_add, Array.getElem?_append_left (by simpa using hlt)]
    simpa using h1⟩

theorem VSim.new' (R : HRel P lo n0 β h w) {o : AObj} {o' : Obj} (ho : ORel P β True o (some o') (0, objSize o')) {v v' : Value} {k : Nat}
    (hv : VRel (bset β h.size (w.heap.size, (0, objSize o'))) v v') {r : Result Value} (hr : r = .ok v' { w with drawn := k, heap := w.heap.push o' }) : VSim P lo n0 β h w v (h.push o) r :=
  ⟨_, { w with drawn := k, heap := w.heap.push o' }, v', hr, hv, (R.alloc o o' ho).1.drew k, (R.alloc o o' ho).2.drew k⟩

theorem addr_add (b o n : Nat) : (⟨b, o, none⟩ : Addr).add n = ⟨b, o + n, none⟩ := by
  unfold Addr.add
  split
  · rename_i h0; rw [h0]; rfl
  · rfl
theorem addr_add' {x : Addr} (hs : x.spot = none) (n : Nat) : x.add n = ⟨x.block, x.off + n, none⟩ := by
  obtain ⟨b, o, s⟩ := x
  simp only at hs; subst hs
  exact addr_add b o n
theorem op_append (R : HRel P lo n0 β h w) {t u e eu ty : TypeId} {i : TypeInfo} {z : Value} (ht : P.underlying t = some (.slice e)) (hu : P.underlying u = some (.slice eu)) (hi : P.info? e = some i) (hiz : i.zero = some z) (hzs : z.cells.size = i.size)
    {s x s' x' v : Value} (hs : VRel β s s') (hx : VRel β x x') (hv : appendA lo h i.size i.bytes s x = some (v, h1)) :
    VSim P lo n0 β h w v h1 ((Builtin.append_ #[t, u] ty #[s', x']).run P w) := by
  unfold appendA at hv
  split at hv
  · cases hv
  · rename_i n new hel
    obtain ⟨new', hnn, hnl, hlen, hcells⟩ := elems_rel R hel hx
    have hop : openCap = 18446744073709551616 := rfl
    have hnl' : new'.length = n * i.size := by rw [← hnn.1, hnl]
    split at hv
    · -- nil
      rename_i sl sc
      split at hv
      · rename_i h0
        obtain ⟨rfl, rfl⟩ := h0
        cases hs
        split at hv
        · rename_i hn0'
          subst hn0'
          cases hv
          refine .quiet R (.sl0 0 0) ?_
          exact append_in ht hu hi (hlen w) (hcells w rfl) (by omega) rfl
        · rename_i hn0'
          split at hv
          · rename_i hfit
            cases hv
            obtain ⟨cap, k, rest, ⟨hc1, hc2⟩, hr⟩ := append_out (w := w) (old := []) (ty := ty) ht hu hi hiz (base := none) (sl := 0) (sc := 0) (hlen w) hcells (fun w2 _ => run_firstCells_none w2 _ _ _ _) (by omega) (by simpa using hfit)
            have hc := cells_prefix (P := P) (e := e) hnn rest
            have hcc := hc2 (by simp) hnl' hzs
            refine .new' R (o' := .cells (([] : List Value).toArray ++ new'.toArray ++ rest) e (0, 0)) (by simpa using hc) (.sl (a' := ⟨w.heap.size, 0, none⟩) (c' := cap) arel_new ?_) (by simpa using hr)
            have := fits_run (old := 0) hfit (by omega)
            exact ⟨by omega, .inr ⟨i.size, rfl, by omega, fun _ => ⟨_, _, bset_same _ _ _, by simpa [objSize] using hcc⟩⟩⟩
          · cases hv
      · cases hv
    · rename_i b o sl sc
      by_cases hz : ∃ a1, s' = .slice (some a1) 0 0 ∧ sl = 0 ∧ sc = 0
      · obtain ⟨a1, rfl, rfl, rfl⟩ := hz
        split at hv
        · rename_i hn0'
          subst hn0'
          split at hv
          · cases hv
            refine .quiet R (.sle _ a1) ?_
            have hnil : new' = [] := List.eq_nil_of_length_eq_zero (by omega)
            subst hnil
            exact append_in ht hu hi (hlen w) (hcells w rfl) (by omega) (by simp [storeCells])
          · cases hv
        · rename_i hn0'
          split at hv
          · rename_i ho; omega
          · split at hv
            · rename_i hin; omega
            · rename_i hin
              split at hv
              · rename_i old hold
                split at hv
                · rename_i hfit
                  cases hv
                  have hfr := fits_run (old := 0) hfit (by omega)
                  have hold0 : old = [] := by
                    rw [Nat.zero_mul] at hold
                    unfold cellsAt at hold
                    split at hold
                    · split at hold
                      · cases hold; exact List.take_zero
                      · cases hold
                    · cases hold
                  subst hold0
                  obtain ⟨cap, k, rest, ⟨hc1, hc2⟩, hr⟩ := append_out (w := w) (old := []) (ty := ty) ht hu hi hiz (base := some a1) (sl := 0) (sc := 0) (hlen w) hcells
                    (fun w2 hw2 => by simpa using run_firstCells_some w2 i.size 0 a1 0 0 [] (by simp) (fun j v hj => by simp at hj)) hin hfit
                  have hc := cells_prefix (P := P) (e := e) hnn rest
                  have hcc := hc2 (by simp) hnl' hzs
                  exact .new' R (o' := .cells (([] : List Value).toArray ++ new'.toArray ++ rest) e (0, 0)) (by simpa using hc) (.sl (a' := ⟨w.heap.size, 0, none⟩) (c' := cap) arel_new
                    ⟨by omega, .inr ⟨i.size, rfl, hc1, fun _ => ⟨_, _, bset_same _ _ _, by simpa [objSize] using hcc⟩⟩⟩) (by simpa using hr)
                · cases hv
              · cases hv
      cases hs with
      | sle a0 a1 => exact absurd ⟨_, rfl, rfl, rfl⟩ hz
      | @sl _ a' _ _ sc' ha hcr =>
      have hsp := ha.s'
      have hslc : sl ≤ sc' := by rcases hcr.2 with ⟨q1, q2, q3⟩ | ⟨s, q1, q2, _⟩ <;> omega
      split at hv
      · -- nothing to add
        rename_i hn0'
        subst hn0'
        split at hv
        · cases hv
          refine .quiet R (.sl ha hcr) ?_
          have hnil : new' = [] := List.eq_nil_of_length_eq_zero (by omega)
          subst hnil
          exact append_in ht hu hi (hlen w) (hcells w rfl) (by omega) (by simp [storeCells])
        · cases hv
      · rename_i hn0'
        split at hv
        · -- the capacity is not known
          rename_i hopen
          split at hv
          · rename_i c hcb
            split at hv
            · rename_i hcond
              obtain ⟨hsc, hi0, hlo, hend, hfit, hscal⟩ := hcond
              subst hsc
              cases hv
              obtain ⟨hl1, hc2⟩ := hcr
              obtain ⟨s2, hs2, q2, q3⟩ : ∃ s, openCap + i.size = openCap + s ∧ sl ≤ sc' ∧ (0 < s → ∃ r d, β b = some (r, d) ∧ d.1 + o + sc' * s ≤ d.2) := by
                rcases hc2 with ⟨q1, q2, q3⟩ | q
                · omega
                · exact q
              have hs2' : s2 = i.size := by omega
              subst hs2'
              obtain ⟨r0, d0, hb0, hd0⟩ := q3 (Nat.pos_of_ne_zero hi0)
              obtain ⟨_, _, d, hb, hoff⟩ := ha
              dsimp only at hb hoff
              rw [hb] at hb0
              simp only [Option.some.injEq, Prod.mk.injEq] at hb0
              obtain ⟨rfl, rfl⟩ := hb0
              clear hc2 q3
              obtain ⟨c', e', fz, g1, g2, gz, g3⟩ := R.obj b a'.block d _ hb hcb
              have hfz := g2 hlo; subst hfz
              have hfr := fits_run (old := sl) hfit (by omega)
              -- the old cells
              have hold : LRel β (c.drop o) ((c'.toList.drop (d.1 + o)).take (sl * i.size)) := by
                refine ⟨?_, fun j v v' x y => ?_⟩
                · simp only [List.length_drop, List.length_take, Array.length_toList]
                  rcases Nat.eq_zero_or_pos (sl * i.size) with h0 | h0
                  · omega
                  · obtain ⟨v', h4, _⟩ := g3 (c.length - 1) c[c.length - 1] (List.getElem?_eq_getElem (by omega))
                    have := (Array.getElem?_eq_some_iff.1 h4).1
                    omega
                · rw [List.getElem?_drop] at x
                  rw [List.getElem?_take] at y
                  split at y
                  · rw [List.getElem?_drop, Nat.add_assoc] at y
                    obtain ⟨v2, h4, h5⟩ := g3 _ _ x
                    rw [← Array.getElem?_toList, y] at h4; cases h4; exact h5
                  · cases y
              have hlenc : (c.drop o).length = sl * i.size := by simp; omega
              by_cases hin : sl + n ≤ sc'
              · -- there is room: it is written where it lies
                have hmul : (sl + n) * i.size = sl * i.size + n * i.size := Nat.add_mul _ _ _
                have hroom : d.1 + o + (sl + n) * i.size ≤ c'.size := by
                  have := Nat.mul_le_mul_right i.size hin
                  omega
                have hone : ∀ v ∈ new', v.oneCell' = true := by
                  intro v hv'
                  obtain ⟨j, hj⟩ := List.getElem?_of_mem hv'
                  have hjl : j < new.length := hnn.1 ▸ (List.getElem?_eq_some_iff.1 hj).1
                  have h6 := (hnn.2 j new[j] v (List.getElem?_eq_getElem hjl) hj).scal
                  rw [List.all_eq_true.1 hscal new[j] (by simp)] at h6
                  cases v <;> simp_all [RS.scal, Value.oneCell']
                have hrun := run_storeCells_at (P := P) a'.block (a'.off + sl * i.size) e' new' 0 c' w g1 (by omega) hone
                rw [← addr_add' hsp] at hrun
                have hr := append_in (ty := ty) ht hu hi (base := some a') (sl := sl) (sc := sc') (hlen w) (hcells w rfl) hin hrun
                have hw : w.setRow a'.block (c'.toList.take (a'.off + sl * i.size + 0) ++ new' ++ c'.toList.drop (a'.off + sl * i.size + 0 + new'.length)).toArray =
                    { w with heap := w.heap.setIfInBounds a'.block (.cells (c'.toList.take (a'.off + sl * i.size) ++ new' ++ c'.toList.drop (a'.off + sl * i.size + new'.length)).toArray e' (0, 0)) } := by
                  simp only [World.setRow, Nat.add_zero]
                  congr 1
                  apply Array.ext_getElem?
                  intro j
                  by_cases hj : j = a'.block
                  · subst hj
                    have hlt : a'.block < w.heap.size := (R.dom b _ _ hb).2
                    rw [Array.getElem?_modify, if_pos rfl, g1, Array.getElem?_setIfInBounds_self]
                    simp only [hlt, if_true, Option.map_some]
                  · rw [Array.getElem?_setIfInBounds_ne (Ne.symm hj), Array.getElem?_modify, if_neg (Ne.symm hj)]
                rw [hw] at hr
                have key := R.grow hlo hb (by rw [hcb]; simp) (.cells (c.drop o ++ new)) (.cells (c'.toList.take (a'.off + sl * i.size) ++ new' ++ c'.toList.drop (a'.off + sl * i.size + new'.length)).toArray e' (0, 0)) (d.1 + o, d.2) ?_ (fun L hL => by rw [g1] at hL; cases hL)
                · refine ⟨_, _, _, hr, .sl ⟨rfl, hsp, (d.1 + o, d.2), by simp, by simp [hoff]⟩ ⟨by omega, .inr ⟨i.size, rfl, by omega, fun _ => ⟨_, _, bset_same _ _ _, by simpa using hd0⟩⟩⟩, key.1, key.2⟩
                · refine ⟨_, e', _, rfl, fun _ => rfl, by simp; omega, fun j v hj => ?_⟩
                  simp only [List.getElem?_toArray]
                  by_cases hj1 : j < sl * i.size
                  · rw [List.getElem?_append_left (by omega)] at hj
                    rw [List.getElem?_drop] at hj
                    obtain ⟨v', h8, h9⟩ := g3 _ _ hj
                    refine ⟨v', ?_, h9⟩
                    rw [List.append_assoc, List.getElem?_append_left (by simp; omega), List.getElem?_take, if_pos (by omega), Array.getElem?_toList, Nat.add_assoc]
                    exact h8
                  · rw [List.getElem?_append_right (by omega), hlenc] at hj
                    obtain ⟨v', h8, h9⟩ := hnn.get hj
                    refine ⟨v', ?_, h9⟩
                    have hlt := (List.getElem?_eq_some_iff.1 h8).1
                    have htk : (c'.toList.take (a'.off + sl * i.size)).length = a'.off + sl * i.size := by simp; omega
                    rw [List.append_assoc, List.getElem?_append_right (by omega), htk, List.getElem?_append_left (by omega)]
                    rw [show d.1 + o + j - (a'.off + sl * i.size) = j - sl * i.size by omega]; exact h8
              · obtain ⟨cap, k, rest, ⟨hc1, hc2⟩, hr⟩ := append_out (w := w) (old := (c'.toList.drop (d.1 + o)).take (sl * i.size)) (ty := ty) ht hu hi hiz (base := some a') (sl := sl) (sc := sc') (hlen w) hcells
                  (fun w2 hw2 => by
                    refine run_firstCells_some w2 i.size sl a' sl sc' _ (by rw [← hold.1, hlenc]) (fun j v hj => ?_)
                    rw [List.getElem?_take] at hj
                    split at hj
                    · rw [List.getElem?_drop] at hj
                      rw [addr_add' hsp]
                      unfold World.cell?
                      dsimp only
                      rw [hw2, g1]
                      simp only [Option.isSome_none, Bool.false_eq_true, if_false]
                      rw [hoff, ← Array.getElem?_toList]; exact hj
                    · cases hj) hin hfit
                obtain ⟨R2, E2⟩ := R.kill b
                have hc := cells_prefix (P := P) (e := e) (hold.append hnn) rest
                have hcc := hc2 (by rw [← hold.1, hlenc]) hnl' hzs
                refine VSim.after E2 ?_
                have hsz : (h.setIfInBounds b .junk).size = h.size := by simp
                rw [show (⟨h.size, 0, none⟩ : Addr) = ⟨(h.setIfInBounds b .junk).size, 0, none⟩ by rw [hsz]]
                exact .new' R2 (o' := .cells (((c'.toList.drop (d.1 + o)).take (sl * i.size)).toArray ++ new'.toArray ++ rest) e (0, 0)) (by simpa using hc) (.sl (a' := ⟨w.heap.size, 0, none⟩) (c' := cap) arel_new
                  ⟨by omega, .inr ⟨i.size, rfl, hc1, fun _ => ⟨_, _, bset_same _ _ _, by simpa [objSize] using hcc⟩⟩⟩) hr
            · cases hv
          · cases hv
        · rename_i hopen
          obtain ⟨hl1, hc2⟩ := hcr
          have hcc : sc < openCap ∧ sc' = sc ∧ sl ≤ sc := by
            rcases hc2 with q | ⟨s, q1, q2, _⟩
            · exact q
            · omega
          obtain ⟨q1, rfl, q3⟩ := hcc
          split at hv
          · -- within the capacity
            rename_i hin
            split at hv
            · rename_i hscal
              simp only [Option.map_eq_some_iff] at hv
              obtain ⟨h', hset, he⟩ := hv
              cases he
              have ha2 : ARel β ⟨b, o + sl * i.size, none⟩ (a'.add (sl * i.size)) := by
                have := ha.add (sl * i.size)
                rwa [addr_add] at this
              obtain ⟨w1, hst, hR, hE⟩ := set_rel R hset hnn hscal ha2
              exact ⟨β, w1, _, append_in (ty := ty) ht hu hi (base := some a') (sl := sl) (sc := sc') (hlen w) (hcells w rfl) hin hst, .sl ha ⟨by omega, .inl ⟨q1, rfl, hin⟩⟩, hR, hE⟩
            · cases hv
          · rename_i hin
            split at hv
            · rename_i old hold
              split at hv
              · rename_i hfit
                cases hv
                have hfr := fits_run (old := sc') hfit (by omega)
                obtain ⟨hol, old', hoo, hoc⟩ := cells_rel R hold ha
                obtain ⟨cap, k, rest, ⟨hc1, hc2⟩, hr⟩ := append_out (w := w) (old := old') (ty := ty) ht hu hi hiz (base := some a') (sl := sl) (sc := sc') (hlen w) hcells
                  (fun w2 hw2 => by
                    refine run_firstCells_some w2 i.size sl a' sl sc' _ (by rw [← hoo.1, hol]) (fun j v hj => ?_)
                    have := hoc j v hj
                    unfold World.cell? at this ⊢
                    rw [hw2]; exact this) hin hfit
                have hc := cells_prefix (P := P) (e := e) (hoo.append hnn) rest
                have hcc := hc2 (by rw [← hoo.1, hol]) hnl' hzs
                exact .new' R (o' := .cells (old'.toArray ++ new'.toArray ++ rest) e (0, 0)) (by simpa using hc) (.sl (a' := ⟨w.heap.size, 0, none⟩) (c' := cap) arel_new
                  ⟨by omega, .inr ⟨i.size, rfl, hc1, fun _ => ⟨_, _, bset_same _ _ _, by simpa [objSize] using hcc⟩⟩⟩) hr
              · cases hv
            · cases hv
    · cases hv
end
end Go.RS

/- Each operation of the abstract machine is followed by the real one (9): maps. -/
namespace Go.RS
open Go

section
variable {P : Program} {lo n0 : Nat} {β : Bij} {h h1 : AH} {w : World} {fr : Fr} {a : Act}

/-! ### A key is one -/
def CkFlat (P : Program) (em : Bool) (D : Nat) (t : TypeId) (ks : List AK) : Prop :=
  ∃ desc, P.underlying t = some desc ∧ ∀ (w : World) (xs : List Value) (b : Bool), atomsEq ks xs xs = some b →
    (isAggD desc = true → (Instr.checkKey em D t (.agg xs.toArray)).run P w = .ok () w) ∧
    (isAggD desc = false → ∃ u, xs = [u] ∧ (Instr.checkKey em D t u).run P w = .ok () w)
theorem part_ck {em : Bool} {D : Nat} {t : TypeId} {ks : List AK} (IH : CkFlat P em D t ks) (hn : szOf P t = some ks.length) (w : World) (xs : List Value) (off : Nat) {c : Bool}
    (he : atomsEq ks ((xs.drop off).take ks.length) ((xs.drop off).take ks.length) = some c) :
    ∃ u, (part t xs.toArray off).run P w = .ok u w ∧ (Instr.checkKey em D t u).run P w = .ok () w := by
  obtain ⟨desc, hd, hall⟩ := IH
  obtain ⟨h1, h2⟩ := hall w _ c he
  rw [part_run hd hn]
  cases hag : isAggD desc with
  | true =>
    simp only [if_true]
    rw [ext_arr]
    exact ⟨_, rfl, h1 hag⟩
  | false =>
    obtain ⟨u, hx, hr⟩ := h2 hag
    simp only [Bool.false_eq_true, if_false]
    have gx : xs[off]? = some u := by
      have := congrArg (·[0]?) hx
      simp only [List.getElem?_take, List.getElem?_drop, Nat.add_zero] at this
      split at this
      · simpa using this
      · simp at this
    simp only [List.getElem?_toArray, gx]
    exact ⟨u, rfl, hr⟩
theorem fields_ck {em : Bool} {rc : TypeId → Option (List AK)} {D : Nat} (IH : ∀ t ks, rc t = some ks → CkFlat P em D t ks) (w : World) (xs : List Value) : ∀ (fs : List Field) (off : Nat) (ks : List AK) (b : Bool),
    flatF P rc fs off = some ks → atomsEq ks (xs.drop off) (xs.drop off) = some b →
    (forIn fs PUnit.unit (fun f (_ : PUnit) => (if f.name ≠ "_" then do
      Instr.checkKey em D f.type (← part f.type xs.toArray f.offset)
      pure (ForInStep.yield PUnit.unit) else pure (ForInStep.yield PUnit.unit) : Sem (ForInStep PUnit)))).run P w = .ok PUnit.unit w
  | [], off, ks, b, hf, he => by simp
  | f :: fs, off, ks, b, hf, he => by
    simp only [flatF] at hf
    split at hf
    · rename_i hc
      obtain ⟨hname, hoff⟩ := hc
      simp only [Option.bind_eq_some_iff] at hf
      obtain ⟨k1, hk1, hf⟩ := hf
      split at hf
      · rename_i hsz
        simp only [Option.map_eq_some_iff] at hf
        obtain ⟨k2, hk2, rfl⟩ := hf
        obtain ⟨c, d, h1, h2, rfl⟩ := atomsEq_append he
        obtain ⟨u, p1, p2⟩ := part_ck (IH _ _ hk1) hsz w xs off h1
        have ih := fields_ck IH w xs fs (off + k1.length) k2 d hk2 (by simpa [List.drop_drop, Nat.add_comm] using h2)
        rw [← hoff] at p1
        simp only [List.forIn_cons, Sem.run_bind, hname, ne_eq, not_false_eq_true, if_true, p1, Result.andThen_ok, p2, Sem.run_pure]
        exact ih
      · cases hf
    · cases hf
theorem items_ck {em : Bool} {e : TypeId} {k : List AK} {D : Nat} (IH : CkFlat P em D e k) (hn : szOf P e = some k.length) (w : World) (xs : List Value) : ∀ (m i : Nat) (b : Bool),
    atomsEq (List.replicate m k).flatten (xs.drop (i * k.length)) (xs.drop (i * k.length)) = some b →
    (forIn (List.range' i m) PUnit.unit (fun j (_ : PUnit) => (do
      Instr.checkKey em D e (← part e xs.toArray (j * (← sizeOf e)))
      pure (ForInStep.yield PUnit.unit) : Sem (ForInStep PUnit)))).run P w = .ok PUnit.unit w
  | 0, i, b, he => by simp
  | m + 1, i, b, he => by
    rw [List.replicate_succ, List.flatten_cons] at he
    obtain ⟨c, d, h1, h2, rfl⟩ := atomsEq_append he
    obtain ⟨u, p1, p2⟩ := part_ck IH hn w xs (i * k.length) h1
    have ih := items_ck IH hn w xs m (i + 1) d (by simpa [List.drop_drop, Nat.add_mul, Nat.add_comm] using h2)
    rw [List.range'_succ]
    simp only [List.forIn_cons, Sem.run_bind, szOf_run hn, Result.andThen_ok, p1, p2, Sem.run_pure]
    exact ih
theorem flat_ck {em : Bool} : ∀ (d : Nat) (t : TypeId) (ks : List AK) (D : Nat), d ≤ D → flatT P d t = some ks → CkFlat P em D t ks
  | 0, t, ks, D, hD, hf => by simp [flatT] at hf
  | d + 1, t, ks, D, hD, hf => by
    obtain ⟨D, rfl⟩ : ∃ E, D = E + 1 := ⟨D - 1, by omega⟩
    have IH : ∀ t ks, flatT P d t = some ks → CkFlat P em D t ks := fun t ks h => flat_ck d t ks D (by omega) h
    simp only [flatT] at hf
    split at hf
    · rename_i fs hu
      split at hf
      · cases hf
      · refine ⟨_, hu, fun w xs b he => ⟨fun _ => ?_, fun hc => by simp [isAggD] at hc⟩⟩
        have := fields_ck IH w xs fs.toList 0 ks b hf (by simpa using he)
        rw [Instr.checkKey]
        simp only [Sem.run_bind, run_underlying hu, Result.andThen_ok]
        rw [← Array.forIn_toList]
        simp only [this, Result.andThen_ok, Sem.run_pure]
    · rename_i n e hu
      simp only [Option.bind_eq_some_iff] at hf
      obtain ⟨k, hk, hf⟩ := hf
      split at hf
      · rename_i hsz
        cases hf
        refine ⟨_, hu, fun w xs b he => ⟨fun _ => ?_, fun hc => by simp [isAggD] at hc⟩⟩
        have := items_ck (IH e k hk) hsz w xs n 0 b (by simpa using he)
        rw [Instr.checkKey]
        simp only [Sem.run_bind, run_underlying hu, Result.andThen_ok]
        simp only [Std.Legacy.Range.forIn_eq_forIn_range', Std.Legacy.Range.size, Nat.sub_zero, Nat.add_one_sub_one, Nat.div_one]
        simp only [this, Result.andThen_ok, Sem.run_pure]
      · cases hf
    · rename_i desc h1 h2 hu
      simp only [Option.bind_eq_some_iff] at hf
      obtain ⟨k, hk, hf⟩ := hf
      split at hf
      · cases hf
        have hag : isAggD desc = false := by cases desc <;> first | rfl | (simp [atomK] at hk)
        refine ⟨_, hu, fun w xs b he => ⟨fun hc => (by rw [hag] at hc; cases hc), fun _ => ?_⟩⟩
        have hl := atomsEq_len he
        obtain ⟨u, rfl⟩ := List.length_eq_one_iff.1 hl.1
        refine ⟨u, rfl, ?_⟩
        rw [Instr.checkKey]
        simp only [Sem.run_bind, run_underlying hu, Result.andThen_ok]
        cases desc <;> first | rfl | (simp [atomK] at hk)
      · cases hf
    · cases hf

/-- The shape of a map's keys, and a key of that shape. -/
structure KeyTy (P : Program) (t : TypeId) (s : KS) : Prop where
  ex : ∃ d, P.underlying t = some d ∧ match s with
    | .one k => atomK d = some k
    | .agg ks => atomK d = none ∧ isAggD d = true ∧ flatT P 50 t = some ks
theorem keyShape_ty {t : TypeId} {s : KS} (hs : keyShape P t = some s) : KeyTy P t s := by
  simp only [keyShape, Option.bind_eq_some_iff] at hs
  obtain ⟨d, hd, hs⟩ := hs
  refine ⟨d, hd, ?_⟩
  split at hs
  · rename_i k hk; cases hs; exact hk
  · rename_i hk
    split at hs
    · rename_i hag
      simp only [Option.map_eq_some_iff] at hs
      obtain ⟨ks, hks, rfl⟩ := hs
      exact ⟨hk, hag, hks⟩
    · cases hs
theorem keyEq_same {s : KS} {x y x' y' : Value} {b : Bool} (hx : VRel β x x') (hy : VRel β y y') (he : keyEq s x y = some b) : x' = x ∧ y' = y := by
  unfold keyEq at he
  split at he
  · obtain ⟨e1, e2, _⟩ := atomEq_same hx hy he; exact ⟨e1, e2⟩
  · obtain ⟨xs', rfl, hxx⟩ := hx.agg_inv
    obtain ⟨ys', rfl, hyy⟩ := hy.agg_inv
    obtain ⟨e1, e2⟩ := atomsEq_same hxx hyy he
    exact ⟨by rw [Array.toList_inj.1 e1], by rw [Array.toList_inj.1 e2]⟩
  · cases he
theorem keyOk_same {s : KS} {x x' : Value} (hx : VRel β x x') (he : keyOk s x = true) : x' = x := by
  unfold keyOk at he
  have : keyEq s x x = some true := by simpa using he
  exact (keyEq_same hx hx this).1
theorem atomEq_eq {k : AK} {x y : Value} (he : atomEq k x y = some true) : x = y := by
  unfold atomEq at he
  split at he
  · split at he
    · rename_i hk; subst hk; simp at he; rw [he]
    · cases he
  · simp at he; rw [he]
  · rename_i a b
    simp only [Option.some.injEq] at he
    rw [beq_toListBytes] at he
    have h2 : a.toList = b.toList := by simpa using he
    rw [ByteArray.toList_eq, ByteArray.toList_eq] at h2
    obtain ⟨x⟩ := a
    obtain ⟨y⟩ := b
    simp only at h2
    rw [Array.toList_inj.1 h2]
  · cases he
theorem atomsEq_eq : ∀ {ks : List AK} {xs ys : List Value}, atomsEq ks xs ys = some true → xs = ys
  | [], [], [], _ => rfl
  | k :: ks, x :: xs, y :: ys, he => by
    simp only [atomsEq] at he
    split at he
    · rename_i a b h1 h2
      simp only [Option.some.injEq, Bool.and_eq_true] at he
      obtain ⟨rfl, rfl⟩ := he
      rw [atomEq_eq h1, atomsEq_eq h2]
    · cases he
  | [], _ :: _, _, he => by simp [atomsEq] at he
  | [], [], _ :: _, he => by simp [atomsEq] at he
  | _ :: _, [], _, he => by simp [atomsEq] at he
  | _ :: _, _ :: _, [], he => by simp [atomsEq] at he
theorem keyEq_eq {s : KS} {x y : Value} (he : keyEq s x y = some true) : x = y := by
  unfold keyEq at he
  split at he
  · exact atomEq_eq he
  · rw [Array.toList_inj.1 (atomsEq_eq he)]
  · cases he
theorem ck_run {t : TypeId} {s : KS} (hs : KeyTy P t s) {x : Value} (hx : keyOk s x = true) (em : Bool) (w : World) : (Instr.checkKey em 10000 t x).run P w = .ok () w := by
  obtain ⟨d, hd, hs⟩ := hs.ex
  have hx' : keyEq s x x = some true := by simpa [keyOk] using hx
  cases s with
  | one k =>
    show (Instr.checkKey em (9999 + 1) t x).run P w = .ok () w
    generalize 9999 = D
    rw [Instr.checkKey]
    simp only at hs
    simp only [Sem.run_bind, run_underlying hd, Result.andThen_ok]
    cases d <;> first | rfl | (simp [atomK] at hs)
  | agg ks =>
    obtain ⟨_, hag, hks⟩ := hs
    simp only [keyEq] at hx'
    split at hx'
    · rename_i heq; cases heq
    · rename_i _ xs _ heq heq2
      cases heq2
      obtain ⟨desc, hd', hall⟩ := flat_ck (P := P) (em := em) 50 t ks 10000 (by decide) (by simpa using hks)
      rw [hd] at hd'; cases hd'
      exact (hall w xs.toList true (by cases heq; exact hx')).1 hag
    · cases hx'

/-! ### Finding a key -/
theorem find_now {d : TypeDesc} {k : AK} (hk : atomK d = some k) {x : Value} : ∀ {es : List (Value × Value × Nat)} {es' : List MapEntry} {i : Nat} {f : Option (Nat × Value)},
    es'.length = es.length → (∀ (j : Nat) (e : Value × Value × Nat) (e' : MapEntry), es[j]? = some e → es'[j]? = some e' → VRel β e.1 e'.key ∧ VRel β e.2.1 e'.val ∧ e'.born = e.2.2) →
    findK (.one k) x es i = some f → keyOk (.one k) x = true →
    ∃ f', Instr.findNow d x es' i = some f' ∧ ((f = none ∧ f' = none) ∨ ∃ j v v', f = some (j, v) ∧ f' = some (j, v') ∧ VRel β v v')
  | [], [], i, f, _, _, hf, _ => by simp [findK] at hf; subst hf; exact ⟨none, rfl, .inl ⟨rfl, rfl⟩⟩
  | e :: es, [], i, f, hl, _, _, _ => by simp at hl
  | [], e' :: es', i, f, hl, _, _, _ => by simp at hl
  | e :: es, e' :: es', i, f, hl, hE, hf, hx => by
    obtain ⟨r1, r2, r3⟩ := hE 0 e e' rfl rfl
    simp only [findK, keyEq] at hf
    have same : ∀ b, atomEq k x e.1 = some b → Instr.sameNow d x e'.key = some b := by
      intro b hb
      unfold atomEq at hb
      split at hb
      · rename_i heq
        rw [heq] at r1
        rw [r1.int_inv]
        cases d <;> simp [atomK] at hk <;> simp only [Instr.sameNow]; exact hb
      · rename_i heq
        rw [heq] at r1
        rw [r1.bool_inv]
        cases d <;> simp [atomK] at hk <;> simp only [Instr.sameNow]; exact hb
      · rename_i heq
        rw [heq] at r1
        rw [r1.str_inv]
        cases d <;> simp [atomK] at hk <;> simp only [Instr.sameNow]; exact hb
      · cases hb
    split at hf
    · rename_i hb
      cases hf
      exact ⟨some (i, e'.val), by simp only [Instr.findNow, same _ hb], .inr ⟨i, e.2.1, e'.val, rfl, rfl, r2⟩⟩
    · rename_i hb
      simp only [Instr.findNow, same _ hb]
      exact find_now hk (by simpa using hl) (fun j u u' a b => hE (j + 1) u u' (by simpa using a) (by simpa using b)) hf hx
    · cases hf
theorem find_asking {t : TypeId} {ks : List AK} {d : TypeDesc} (hd : P.underlying t = some d) (hag : isAggD d = true) (hks : flatT P 50 t = some ks) {x : Value} : ∀ {es : List (Value × Value × Nat)} {es' : List MapEntry} {i : Nat} {f : Option (Nat × Value)},
    es'.length = es.length → (∀ (j : Nat) (e : Value × Value × Nat) (e' : MapEntry), es[j]? = some e → es'[j]? = some e' → VRel β e.1 e'.key ∧ VRel β e.2.1 e'.val ∧ e'.born = e.2.2) →
    findK (.agg ks) x es i = some f → VRel β x x →
    ∃ f', (Instr.findAsking t x es' i).run P w = .ok f' w ∧ ((f = none ∧ f' = none) ∨ ∃ j v v', f = some (j, v) ∧ f' = some (j, v') ∧ VRel β v v')
  | [], [], i, f, _, _, hf, _ => by simp [findK] at hf; subst hf; exact ⟨none, rfl, .inl ⟨rfl, rfl⟩⟩
  | e :: es, [], i, f, hl, _, _, _ => by simp at hl
  | [], e' :: es', i, f, hl, _, _, _ => by simp at hl
  | e :: es, e' :: es', i, f, hl, hE, hf, hx => by
    obtain ⟨r1, r2, r3⟩ := hE 0 e e' rfl rfl
    simp only [findK] at hf
    have same : ∀ b, keyEq (.agg ks) x e.1 = some b → (Op.equal t x e'.key).run P w = .ok b w := by
      intro b hb
      rw [(keyEq_same hx r1 hb).2]
      simp only [keyEq] at hb
      split at hb
      · rename_i heq; cases heq
      · rename_i _ xs ys heq h2
        cases heq
        obtain ⟨desc, hd', hall⟩ := flat_eq (P := P) 50 t ks Op.maxDepth (by decide) (by simpa using hks)
        rw [hd] at hd'; cases hd'
        rw [h2]
        exact (hall w _ _ b hb).1 hag
      · cases hb
    split at hf
    · rename_i hb
      cases hf
      exact ⟨some (i, e'.val), by simp only [Instr.findAsking, Sem.run_bind, same _ hb, Result.andThen_ok, if_true, Sem.run_pure], .inr ⟨i, e.2.1, e'.val, rfl, rfl, r2⟩⟩
    · rename_i hb
      obtain ⟨f', h3, h4⟩ := find_asking hd hag hks (es' := es') (i := i + 1) (by simpa using hl) (fun j u u' a b => hE (j + 1) u u' (by simpa using a) (by simpa using b)) hf hx
      exact ⟨f', by simp only [Instr.findAsking, Sem.run_bind, same _ hb, Result.andThen_ok, Bool.false_eq_true, if_false]; exact h3, h4⟩
    · cases hf
theorem find_rel {t : TypeId} {s : KS} (hs : KeyTy P t s) {x x' : Value} (hx : VRel β x x') (hk : keyOk s x = true) {es : List (Value × Value × Nat)} {es' : Array MapEntry} (hE : ERel β es es') {f : Option (Nat × Value)}
    (hf : findK s x es 0 = some f) (w : World) :
    x' = x ∧ ∃ f', (Instr.findKey t x' es'.toList).run P w = .ok f' w ∧ ((f = none ∧ f' = none) ∨ ∃ j v v', f = some (j, v) ∧ f' = some (j, v') ∧ VRel β v v') := by
  have he := keyOk_same hx hk
  subst he
  refine ⟨rfl, ?_⟩
  have hl : es'.toList.length = es.length := by simpa using hE.1
  have hE' : ∀ (j : Nat) (e : Value × Value × Nat) (e' : MapEntry), es[j]? = some e → es'.toList[j]? = some e' → VRel β e.1 e'.key ∧ VRel β e.2.1 e'.val ∧ e'.born = e.2.2 :=
    fun j e e' a b => hE.2 j e e' a (by simpa using b)
  obtain ⟨d, hd, hs⟩ := hs.ex
  cases s with
  | one k =>
    obtain ⟨f', h1, h2⟩ := find_now hs hl hE' hf hk
    refine ⟨f', ?_, h2⟩
    simp only [Instr.findKey, Sem.run_bind, run_underlying hd, Result.andThen_ok, h1, Sem.run_pure]
  | agg ks =>
    obtain ⟨hno, hag, hks⟩ := hs
    simp only [Instr.findKey, Sem.run_bind, run_underlying hd, Result.andThen_ok]
    have hnow : ∀ y : Value, Instr.sameNow d x' y = none := by
      intro y
      cases d <;> simp [isAggD] at hag <;> rfl
    cases hes : es'.toList with
    | nil =>
      rw [hes] at hl
      have : es = [] := List.eq_nil_of_length_eq_zero (by simpa using hl.symm)
      subst this
      simp [findK] at hf; subst hf
      exact ⟨none, by simp [Instr.findNow], .inl ⟨rfl, rfl⟩⟩
    | cons e0 rest =>
      simp only [Instr.findNow, hnow]
      rw [← hes]
      exact find_asking hd hag hks hl hE' hf hx

theorem getObj_map {r : Nat} {es : Array MapEntry} {c : Nat} (h : w.heap[r]? = some (.map es c)) : (getObj r).run P w = .ok (.map es c) w := by
  simp only [getObj, Sem.run, h]
theorem setObj_run {r : Nat} {o o' : Obj} (h : w.heap[r]? = some o) (hc : ∀ c e z, o ≠ .cells c e z) : (setObj r o').run P w = .ok () { w with heap := w.heap.setIfInBounds r o' } := by
  simp only [setObj, Sem.run, h]

theorem op_lookup (R : HRel P lo n0 β h w) {t kt e : TypeId} {s : KS} {z : Value} {ok : Bool} (ht : P.underlying t = some (.map kt e)) (hs : KeyTy P kt s) (hz : zeroOf P e = some z) (hcz : closedV z = true)
    {m k m' k' : Value} (hm : VRel β m m') (hk : VRel β k k') {es : List (Value × Value × Nat)}
    (hes : mapEs h m = some es) (hok : keyOk s k = true) {f : Option (Nat × Value)} (hf : findK s k es 0 = some f) :
    VSim P lo n0 β h w (lookRes ok z f) h ((Instr.lookup t m' k' ok).run P w) := by
  have hget : ∃ es' : Array MapEntry, ERel β es es' ∧ ((m' = .map none ∧ es' = #[]) ∨ ∃ r c, m' = .map (some r) ∧ w.heap[r]? = some (.map es' c)) := by
    cases hm <;> simp only [mapEs] at hes <;> first
      | (cases hes; done)
      | (cases hes; exact ⟨#[], ⟨rfl, fun i e e' a _ => by simp at a⟩, .inl ⟨rfl, rfl⟩⟩)
      | (rename_i r r' hr
         split at hes
         · rename_i es0 clock hh
           cases hes
           obtain ⟨_, es', h1, h2⟩ := R.obj r r' (0, 0) _ hr hh
           exact ⟨es', h2, .inr ⟨r', _, rfl, h1⟩⟩
         · cases hes)
  clear hes
  obtain ⟨es', hE, hcase⟩ := hget
  obtain ⟨rfl, f', hf1, hf2⟩ := find_rel (P := P) hs hk hok hE hf w
  have hck := ck_run hs hok es'.isEmpty w
  have hv : ∀ (v v' : Value) (b : Bool), VRel β v v' → VRel β (if ok then .tuple #[v, .bool b] else v) (if ok then .tuple #[v', .bool b] else v') := by
    intro v v' b hvv
    cases ok
    · simpa using hvv
    · simp only [if_true]
      exact .tuple' (.cons hvv (.cons (.bool b) (.nil β)))
  rcases hf2 with ⟨rfl, rfl⟩ | ⟨j, v, v', rfl, rfl, hvv⟩
  · refine .quiet R (hv z z false (closedV_rel hcz)) ?_
    rcases hcase with ⟨rfl, rfl⟩ | ⟨r, c, rfl, hr⟩
    · simp only [Instr.lookup, Sem.run_bind, run_underlying ht, Result.andThen_ok, Sem.run_pure, hck, hf1, zeroOf_run hz]
    · simp only [Instr.lookup, Sem.run_bind, run_underlying ht, Result.andThen_ok, getObj_map hr, Sem.run_pure, hck, hf1, zeroOf_run hz]
  · refine .quiet R (hv v v' true hvv) ?_
    rcases hcase with ⟨rfl, rfl⟩ | ⟨r, c, rfl, hr⟩
    · simp only [Instr.lookup, Sem.run_bind, run_underlying ht, Result.andThen_ok, Sem.run_pure, hck, hf1]
    · simp only [Instr.lookup, Sem.run_bind, run_underlying ht, Result.andThen_ok, getObj_map hr, Sem.run_pure, hck, hf1]

/-- A look at a map leaves the world as it is. -/
theorem op_lookup_run (R : HRel P lo n0 β h w) {t kt e : TypeId} {s : KS} {z : Value} {ok : Bool} (ht : P.underlying t = some (.map kt e)) (hs : KeyTy P kt s) (hz : zeroOf P e = some z) (hcz : closedV z = true)
    {m k m' k' : Value} (hm : VRel β m m') (hk : VRel β k k') {es : List (Value × Value × Nat)}
    (hes : mapEs h m = some es) (hok : keyOk s k = true) {f : Option (Nat × Value)} (hf : findK s k es 0 = some f) :
    ∃ v', (Instr.lookup t m' k' ok).run P w = .ok v' w ∧ VRel β (lookRes ok z f) v' := by
  have hget : ∃ es' : Array MapEntry, ERel β es es' ∧ ((m' = .map none ∧ es' = #[]) ∨ ∃ r c, m' = .map (some r) ∧ w.heap[r]? = some (.map es' c)) := by
    cases hm <;> simp only [mapEs] at hes <;> first
      | (cases hes; done)
      | (cases hes; exact ⟨#[], ⟨rfl, fun i e e' a _ => by simp at a⟩, .inl ⟨rfl, rfl⟩⟩)
      | (rename_i r r' hr
         split at hes
         · rename_i es0 clock hh
           cases hes
           obtain ⟨_, es', h1, h2⟩ := R.obj r r' (0, 0) _ hr hh
           exact ⟨es', h2, .inr ⟨r', _, rfl, h1⟩⟩
         · cases hes)
  clear hes
  obtain ⟨es', hE, hcase⟩ := hget
  obtain ⟨rfl, f', hf1, hf2⟩ := find_rel (P := P) hs hk hok hE hf w
  have hck := ck_run hs hok es'.isEmpty w
  have hv : ∀ (v v' : Value) (b : Bool), VRel β v v' → VRel β (if ok then .tuple #[v, .bool b] else v) (if ok then .tuple #[v', .bool b] else v') := by
    intro v v' b hvv
    cases ok
    · simpa using hvv
    · simp only [if_true]
      exact .tuple' (.cons hvv (.cons (.bool b) (.nil β)))
  rcases hf2 with ⟨rfl, rfl⟩ | ⟨j, v, v', rfl, rfl, hvv⟩
  · refine ⟨_, ?_, hv z z false (closedV_rel hcz)⟩
    rcases hcase with ⟨rfl, rfl⟩ | ⟨r, c, rfl, hr⟩
    · simp only [Instr.lookup, Sem.run_bind, run_underlying ht, Result.andThen_ok, Sem.run_pure, hck, hf1, zeroOf_run hz]
    · simp only [Instr.lookup, Sem.run_bind, run_underlying ht, Result.andThen_ok, getObj_map hr, Sem.run_pure, hck, hf1, zeroOf_run hz]
  · refine ⟨_, ?_, hv v v' true hvv⟩
    rcases hcase with ⟨rfl, rfl⟩ | ⟨r, c, rfl, hr⟩
    · simp only [Instr.lookup, Sem.run_bind, run_underlying ht, Result.andThen_ok, Sem.run_pure, hck, hf1]
    · simp only [Instr.lookup, Sem.run_bind, run_underlying ht, Result.andThen_ok, getObj_map hr, Sem.run_pure, hck, hf1]

theorem sameBits_atom {n : Nat} {k : AK} {x : Value} {b : Bool} (h : atomEq k x x = some b) : Instr.sameBits n x x = true := by
  unfold atomEq at h
  split at h
  · simp [Instr.sameBits]
  · simp [Instr.sameBits]
  · simp only [Instr.sameBits, beq_toListBytes, beq_self_eq_true]
  · cases h
theorem sameBits_atoms {n : Nat} : ∀ {ks : List AK} {xs : List Value} {b : Bool}, atomsEq ks xs xs = some b → (xs.zip xs).all (fun (x, y) => Instr.sameBits n x y) = true
  | [], [], _, _ => rfl
  | k :: ks, x :: xs, b, he => by
    simp only [atomsEq] at he
    split at he
    · rename_i c d h1 h2
      simp only [List.zip_cons_cons, List.all_cons, sameBits_atom h1, sameBits_atoms h2, Bool.and_self]
    · cases he
  | [], _ :: _, _, he => by simp [atomsEq] at he
  | _ :: _, [], _, he => by simp [atomsEq] at he
theorem stays_run {s : KS} {x : Value} (hk : keyOk s x = true) (w : World) : (Instr.keyThatStays x x).run P w = .ok x w := by
  have hk' : keyEq s x x = some true := by simpa [keyOk] using hk
  have hb : Instr.sameBits 10000 x x = true := by
    unfold keyEq at hk'
    split at hk'
    · exact sameBits_atom hk'
    · rename_i heq _
      show Instr.sameBits (9999 + 1) _ _ = true
      generalize 9999 = D
      simp only [Instr.sameBits, beq_self_eq_true, Bool.true_and]
      exact sameBits_atoms hk'
    · cases hk'
  simp only [Instr.keyThatStays, hb, if_true, Sem.run_pure]
theorem find_key : ∀ {s : KS} {x : Value} {es : List (Value × Value × Nat)} {i j : Nat} {v : Value}, findK s x es i = some (some (j, v)) → ∃ e, i ≤ j ∧ es[j - i]? = some e ∧ keyEq s x e.1 = some true ∧ v = e.2.1
  | s, x, [], i, j, v, h => by simp [findK] at h
  | s, x, e :: es, i, j, v, h => by
    simp only [findK] at h
    split at h
    · rename_i hb
      simp only [Option.some.injEq, Prod.mk.injEq] at h
      obtain ⟨rfl, rfl⟩ := h
      exact ⟨e, Nat.le_refl _, by simp, hb, rfl⟩
    · obtain ⟨e0, h1, h2, h3, h4⟩ := find_key h
      refine ⟨e0, by omega, ?_, h3, h4⟩
      rw [show j - i = (j - (i + 1)) + 1 by omega, List.getElem?_cons_succ]; exact h2
    · cases h

/-! ### Entries turned -/
theorem ERel.push {es : List (Value × Value × Nat)} {es' : Array MapEntry} (hE : ERel β es es') {k v k' v' : Value} (hk : VRel β k k') (hv : VRel β v v') (c : Nat) : ERel β (es ++ [(k, v, c)]) (es'.push { key := k', val := v', born := c }) := by
  refine ⟨by simp [hE.1], fun i e e' a b => ?_⟩
  by_cases hi : i < es.length
  · rw [List.getElem?_append_left hi] at a
    rw [Array.getElem?_push, if_neg (by rw [hE.1]; omega)] at b
    exact hE.2 i e e' a b
  · have hlt : i < (es ++ [(k, v, c)]).length := (List.getElem?_eq_some_iff.1 a).1
    have hi2 : i = es.length := by simp at hlt; omega
    subst hi2
    rw [List.getElem?_append_right (Nat.le_refl _), Nat.sub_self] at a
    rw [Array.getElem?_push, if_pos (by rw [hE.1])] at b
    simp at a b
    subst a; subst b
    exact ⟨hk, hv, rfl⟩
theorem ERel.modify {es : List (Value × Value × Nat)} {es' : Array MapEntry} (hE : ERel β es es') (i : Nat) {f : Value × Value × Nat → Value × Value × Nat} {g : MapEntry → MapEntry}
    (hfg : ∀ e e', es[i]? = some e → es'[i]? = some e' → VRel β (f e).1 (g e').key ∧ VRel β (f e).2.1 (g e').val ∧ (g e').born = (f e).2.2) : ERel β (es.modify i f) (es'.modify i g) := by
  refine ⟨by simp [hE.1], fun j e e' a b => ?_⟩
  rw [List.getElem?_modify] at a
  rw [Array.getElem?_modify] at b
  simp only [Option.map_eq_map, Option.map_eq_some_iff] at a
  obtain ⟨e0, a0, ha⟩ := a
  by_cases hj : i = j
  · subst hj
    simp only [if_true, Option.map_eq_some_iff] at ha b
    obtain ⟨e1, b0, rfl⟩ := b
    subst ha
    exact hfg e0 e1 a0 b0
  · simp only [hj, if_false] at ha b
    subst ha
    exact hE.2 j e0 e' a0 b

theorem op_mapUpdate (R : HRel P lo n0 β h w) {t kt e : TypeId} {s : KS} (ht : P.underlying t = some (.map kt e)) (hs : KeyTy P kt s) {r : Nat} {m' k x k' x' : Value} (hm : VRel β (.map (some r)) m') (hk : VRel β k k') (hx : VRel β x x')
    (hlo : lo ≤ r) {es : List (Value × Value × Nat)} {clock : Nat} (hes : h[r]? = some (.map es clock)) (hok : keyOk s k = true) {f : Option (Nat × Value)} (hf : findK s k es 0 = some f) :
    USim P lo n0 β h w (updMap h r es clock k x f) ((Instr.mapUpdate t m' k' x').run P w) := by
  cases hm with
  | @map _ r' hr =>
  obtain ⟨_, es', h1, hE⟩ := R.obj r r' (0, 0) _ hr hes
  obtain ⟨rfl, f', hf1, hf2⟩ := find_rel (P := P) hs hk hok hE hf w
  have hck := ck_run hs hok false w
  rcases hf2 with ⟨rfl, rfl⟩ | ⟨j, v, v', rfl, rfl, hvv⟩
  · have key := R.set hlo hr (by rw [hes]; simp) (.map (es ++ [(k', x, clock)]) (clock + 1)) (.map (es'.push { key := k', val := x', born := clock }) (clock + 1)) ⟨rfl, _, rfl, hE.push hk hx clock⟩ (by simp) (fun L hL => by rw [h1] at hL; cases hL)
    refine ⟨β, _, ?_, key.1, key.2⟩
    simp only [Instr.mapUpdate, Sem.run_bind, run_underlying ht, Result.andThen_ok, getObj_map h1, hck, hf1]
    exact setObj_run h1 (by simp)
  · obtain ⟨e0, _, g2, g3, g4⟩ := find_key hf
    rw [Nat.sub_zero] at g2
    have hjl : j < es'.size := by rw [hE.1]; exact (List.getElem?_eq_some_iff.1 g2).1
    have hj2 : es'[j]? = some es'[j] := Array.getElem?_eq_getElem hjl
    have hold : es'[j].key = k' := by
      have r1 := (hE.2 j e0 _ g2 hj2).1
      rw [← keyEq_eq g3] at r1
      exact keyOk_same r1 hok
    have key := R.set hlo hr (by rw [hes]; simp) (.map (es.modify j fun e => (k', x, e.2.2)) clock) (.map (es'.modify j fun e => { e with key := k', val := x' }) clock)
      ⟨rfl, _, rfl, hE.modify j (fun e e' a b => ⟨hk, hx, (hE.2 j e e' a b).2.2⟩)⟩ (by simp) (fun L hL => by rw [h1] at hL; cases hL)
    refine ⟨β, _, ?_, key.1, key.2⟩
    simp only [Instr.mapUpdate, Sem.run_bind, run_underlying ht, Result.andThen_ok, getObj_map h1, hck, hf1, hj2, Option.map_some, Option.getD_some, hold, stays_run hok]
    exact setObj_run h1 (by simp)

theorem op_mapEntry (R : HRel P lo n0 β h w) {t kt e : TypeId} {s : KS} {z : Value} (ht : P.underlying t = some (.map kt e)) (hs : KeyTy P kt s) (hz : zeroOf P e = some z) (hcz : closedV z = true)
    {r : Nat} {m' k k' : Value} (hm : VRel β (.map (some r)) m') (hk : VRel β k k')
    (hlo : lo ≤ r) {es : List (Value × Value × Nat)} {clock : Nat} (hes : h[r]? = some (.map es clock)) (hok : keyOk s k = true) {f : Option (Nat × Value)} (hf : findK s k es 0 = some f) {v : Value}
    (hv : entMap h r es clock k z f = (v, h1)) :
    VSim P lo n0 β h w v h1 ((Instr.mapEntry t m' k').run P w) := by
  cases hm with
  | @map _ r' hr =>
  obtain ⟨_, es', g1, hE⟩ := R.obj r r' (0, 0) _ hr hes
  obtain ⟨rfl, f', hf1, hf2⟩ := find_rel (P := P) hs hk hok hE hf w
  have hck := ck_run hs hok false w
  rcases hf2 with ⟨rfl, rfl⟩ | ⟨j, v0, v', rfl, rfl, hvv⟩
  · simp only [entMap, Prod.mk.injEq] at hv
    obtain ⟨rfl, rfl⟩ := hv
    have key := R.set hlo hr (by rw [hes]; simp) (.map (es ++ [(k', z, clock)]) (clock + 1)) (.map (es'.push { key := k', val := z, born := clock }) (clock + 1)) ⟨rfl, _, rfl, hE.push hk (closedV_rel hcz) clock⟩ (by simp) (fun L hL => by rw [g1] at hL; cases hL)
    refine ⟨β, _, .tuple #[z, .int .i64 clock], ?_, .tuple' (.cons (closedV_rel hcz) (.cons (.int _ _) (.nil β))), key.1, key.2⟩
    simp only [Instr.mapEntry, Sem.run_bind, run_underlying ht, Result.andThen_ok, getObj_map g1, hck, hf1, zeroOf_run hz, Sem.run_pure]
    rw [setObj_run g1 (by simp)]
    rfl
  · obtain ⟨e0, _, g2, g3, g4⟩ := find_key hf
    rw [Nat.sub_zero] at g2
    simp only [entMap, Prod.mk.injEq] at hv
    obtain ⟨rfl, rfl⟩ := hv
    have hjl : j < es'.size := by rw [hE.1]; exact (List.getElem?_eq_some_iff.1 g2).1
    have hj2 : es'[j]? = some es'[j] := Array.getElem?_eq_getElem hjl
    have hrel := hE.2 j e0 _ g2 hj2
    have hold : es'[j].key = k' := by
      have r1 := hrel.1
      rw [← keyEq_eq g3] at r1
      exact keyOk_same r1 hok
    have key := R.set hlo hr (by rw [hes]; simp) (.map (es.modify j fun e => (k', e.2)) clock) (.map (es'.modify j fun e => { e with key := k' }) clock)
      ⟨rfl, _, rfl, hE.modify j (fun e e' a b => ⟨hk, (hE.2 j e e' a b).2⟩)⟩ (by simp) (fun L hL => by rw [g1] at hL; cases hL)
    refine ⟨β, _, .tuple #[v', .int .i64 e0.2.2], ?_, ?_, key.1, key.2⟩
    · simp only [Instr.mapEntry, Sem.run_bind, run_underlying ht, Result.andThen_ok, getObj_map g1, hck, hf1, hj2, Option.map_some, Option.getD_some, hold, stays_run hok]
      rw [setObj_run g1 (by simp)]
      simp only [Result.andThen_ok, Sem.run_pure, goInt, hrel.2.2]
    · simp only [g2, Option.map_some, Option.getD_some]
      exact .tuple' (.cons hvv (.cons (.int _ _) (.nil β)))

theorem findIdx_rel {es : List (Value × Value × Nat)} {es' : Array MapEntry} (hE : ERel β es es') (born : Int) : es'.findIdx? (fun e => (e.born : Int) == born) = es.findIdx? (fun e => (e.2.2 : Int) == born) := by
  have : es'.toList.map (·.born) = es.map (·.2.2) := by
    apply List.ext_getElem?
    intro i
    simp only [List.getElem?_map]
    cases h1 : es[i]? with
    | none =>
      have : es'.toList[i]? = none := by
        rw [List.getElem?_eq_none_iff] at h1 ⊢
        simpa [hE.1] using h1
      rw [this]; rfl
    | some e =>
      have hlt : i < es'.size := by rw [hE.1]; exact (List.getElem?_eq_some_iff.1 h1).1
      have h2 : es'[i]? = some es'[i] := Array.getElem?_eq_getElem hlt
      rw [Array.getElem?_toList, h2]
      simp [(hE.2 i e _ h1 h2).2.2]
  have e0 : es'.findIdx? (fun e => (e.born : Int) == born) = es'.toList.findIdx? (fun e => (e.born : Int) == born) := by
    rw [← List.findIdx?_toArray, Array.toArray_toList]
  have e1 : es'.toList.findIdx? (fun e => (e.born : Int) == born) = (es'.toList.map (·.born)).findIdx? (fun b : Nat => ((b : Nat) : Int) == born) := by rw [List.findIdx?_map]; rfl
  have e2 : es.findIdx? (fun e => (e.2.2 : Int) == born) = (es.map (·.2.2)).findIdx? (fun b : Nat => ((b : Nat) : Int) == born) := by rw [List.findIdx?_map]; rfl
  rw [e0, e1, this, ← e2]

theorem op_entryStore (R : HRel P lo n0 β h w) (t : TypeId) {r : Nat} {m' x s' x' : Value} {ki : IntKind} {born : Int} (hm : VRel β (.map (some r)) m') (hs : VRel β (.int ki born) s') (hx : VRel β x x')
    (hlo : lo ≤ r) {es : List (Value × Value × Nat)} {clock i : Nat} (hes : h[r]? = some (.map es clock)) (hi : es.findIdx? (fun e => (e.2.2 : Int) == born) = some i) :
    USim P lo n0 β h w (h.setIfInBounds r (.map (es.modify i fun e => (e.1, x, e.2.2)) clock)) ((Instr.entryStore t m' s' x').run P w) := by
  cases hm with
  | @map _ r' hr =>
  obtain ⟨_, es', g1, hE⟩ := R.obj r r' (0, 0) _ hr hes
  rw [hs.int_inv]
  have key := R.set hlo hr (by rw [hes]; simp) (.map (es.modify i fun e => (e.1, x, e.2.2)) clock) (.map (es'.modify i fun e => { e with val := x' }) clock)
    ⟨rfl, _, rfl, hE.modify i (fun e e' a b => ⟨(hE.2 i e e' a b).1, hx, (hE.2 i e e' a b).2.2⟩)⟩ (by simp) (fun L hL => by rw [g1] at hL; cases hL)
  refine ⟨β, _, ?_, key.1, key.2⟩
  simp only [Instr.entryStore, Sem.run_bind, getObj_map g1, Result.andThen_ok, asInt, asIntOf, Sem.run_pure, findIdx_rel hE, hi]
  exact setObj_run g1 (by simp)
end
end Go.RS

/- Each operation of the abstract machine is followed by the real one (10): all of them. -/
namespace Go.RS
open Go

section
variable {P : Program} {lo n0 : Nat} {β : Bij} {h h1 : AH} {w : World} {fr : Fr} {a : Act}

theorem op_minmax (R : HRel P lo n0 β h w) (F : FRel β fr a.tmps) {mx : Bool} : ∀ {more : List Operand} {ys : List Opd} {x x' v : Value}, lowList P more = some ys → VRel β x x' → ys.foldlM (fun c y => minmax2 mx c (y.ev fr)) x = some v →
    ∃ v', ((more.map a.eval).foldlM (if mx then Builtin.max2 else Builtin.min2) x').run P w = .ok v' w ∧ VRel β v v'
  | [], ys, x, x', v, hl, hx, hv => by
    simp [lowList] at hl; subst hl
    simp at hv; subst hv
    exact ⟨x', rfl, hx⟩
  | y :: more, ys, x, x', v, hl, hx, hv => by
    simp only [lowList, Option.bind_eq_bind, Option.bind_eq_some_iff] at hl
    obtain ⟨z, hz, zs, hzs, he⟩ := hl
    cases he
    rw [List.foldlM_cons] at hv
    simp only [Option.bind_eq_bind, Option.bind_eq_some_iff] at hv
    obtain ⟨c, hc, hv⟩ := hv
    have hy := opd_rel R F hz
    unfold minmax2 at hc
    split at hc
    · rename_i k m k' n hy0
      rw [hy0] at hy
      split at hc
      · rename_i hk; subst hk
        cases hc
        obtain ⟨v', h1, h2⟩ := op_minmax R F (mx := mx) hzs (.int k _) hv
        refine ⟨v', ?_, h2⟩
        rw [hx.int_inv, List.map_cons, hy.int_inv, List.foldlM_cons]
        simp only [Sem.run_bind]
        cases mx
        · simpa [Builtin.min2] using h1
        · simpa [Builtin.max2] using h1
      · cases hc
    · cases hc

theorem callOp_run {c : Call} {b : Builtin} {ty : TypeId} (hc : c.callee = .builtin b) {s : Sem Value} (hb : Go.builtin b c.argTypes ty (c.args.map fun | .const _ => true | _ => false) (c.args.map a.eval) = (do pure (.value (← s)))) :
    (do let d ← resolve a.eval c ty; invoke d.target d.args : Sem Next) = (do pure (.value (← s))) := by
  simp only [resolve, hc, pure_bind, invoke]
  exact hb

theorem op_builtin (R : HRel P lo n0 β h w) (F : FRel β fr a.tmps) {c : Call} {b : Builtin} {ty : TypeId} (hcal : c.callee = .builtin b) {op : AOp} (hl : lowBuiltin P b c = some op) {v : Value} (hv : aop lo op fr h = some (v, h1)) :
    OpSim P lo n0 β h w v h1 ((do let d ← resolve a.eval c ty; invoke d.target d.args : Sem Next).run P w) := by
  obtain ⟨callee, args, argTypes⟩ := c
  simp only at hcal
  simp only [lowBuiltin] at hl
  split at hl
  · split at hl
    · rename_i t ts x hts hxs
      simp only [Option.bind_eq_bind, Option.bind_eq_some_iff] at hl
      obtain ⟨d, hd, x', hx', hl⟩ := hl
      have hx := opd_rel R F hx'
      have hargs : args = #[x] := by rw [← Array.toArray_toList (xs := args), hxs]
      have hat : argTypes[0]? = some t := by rw [← Array.getElem?_toList, hts]; rfl
      clear hxs
      subst hargs
      rw [callOp_run (s := Builtin.len_ argTypes ty #[a.eval x]) hcal (by simp [builtin])]
      have key : ∀ n : Nat, v = .int .i64 n → h1 = h → (Builtin.len_ argTypes ty #[a.eval x]).run P w = .ok (.int .i64 n) w → OpSim P lo n0 β h w v h1 ((do pure (.value (← Builtin.len_ argTypes ty #[a.eval x])) : Sem Next).run P w) := by
        intro n e1 e2 e3
        subst e1; subst e2
        exact (VSim.quiet R (.int _ _) e3).op
      cases d <;> simp only at hl <;> first
        | (cases hl; done)
        | skip
      · cases hl
        simp only [aop] at hv
        split at hv
        · rename_i s hp
          rw [hp] at hx
          simp only [Option.some.injEq, Prod.mk.injEq] at hv
          refine key s.size hv.1.symm hv.2.symm ?_
          simp [Builtin.len_, hat, run_underlying hd, hx.str_inv, goInt]
        · cases hv
      · cases hl
        simp only [aop] at hv
        split at hv
        · rename_i b n cp hp
          rw [hp] at hx
          simp only [Option.some.injEq, Prod.mk.injEq] at hv
          refine key n hv.1.symm hv.2.symm ?_
          generalize a.eval x = ax at hx
          cases hx <;> simp [Builtin.len_, hat, run_underlying hd, goInt]
        · cases hv
      · cases hl
        simp only [aop, Option.some.injEq, Prod.mk.injEq] at hv
        refine key _ hv.1.symm hv.2.symm ?_
        simp [Builtin.len_, hat, run_underlying hd, goInt]
    · cases hl
  · split at hl
    · rename_i t u s x hts hxs
      simp only [Option.bind_eq_bind, Option.bind_eq_some_iff] at hl
      obtain ⟨d, hd, du, hdu, hl⟩ := hl
      split at hl
      · simp only [Option.bind_eq_some_iff] at hl
        obtain ⟨i, hi, hl⟩ := hl
        split at hl
        · rename_i hz
          simp only [Option.bind_eq_some_iff, Option.some.injEq] at hl
          obtain ⟨s', hs', x', hx', rfl⟩ := hl
          have hargs : args = #[s, x] := by rw [← Array.toArray_toList (xs := args), hxs]
          have hat : argTypes = #[t, u] := by rw [← Array.toArray_toList (xs := argTypes), hts]
          clear hxs hts
          subst hargs; subst hat
          rw [callOp_run (s := Builtin.append_ #[t, u] ty #[a.eval s, a.eval x]) hcal (by simp [builtin])]
          cases hiz : i.zero with
          | none => rw [hiz] at hz; cases hz
          | some z =>
            rw [hiz] at hz
            simp only [aop] at hv
            exact (op_append R hd hdu hi hiz (by simpa using hz) (opd_rel R F hs') (opd_rel R F hx') hv).op
        · cases hl
      · cases hl
    · cases hl
  · split at hl
    · rename_i x r hxs
      simp only [Option.bind_eq_bind, Option.bind_eq_some_iff, Option.some.injEq] at hl
      obtain ⟨x', hx', r', hr', rfl⟩ := hl
      simp only [aop, Option.map_eq_some_iff, Prod.mk.injEq] at hv
      obtain ⟨v0, hv, rfl, rfl⟩ := hv
      obtain ⟨v', h1, h2⟩ := op_minmax R F (mx := false) hr' (opd_rel R F hx') hv
      rw [callOp_run (s := Builtin.min_ argTypes ty (args.map a.eval)) hcal (by simp [builtin])]
      refine (VSim.quiet R h2 ?_).op
      have : (args.map a.eval).toList = a.eval x :: r.map a.eval := by rw [Array.toList_map, hxs]; rfl
      simp only [Builtin.min_, this]
      simpa using h1
    · cases hl
  · split at hl
    · rename_i x r hxs
      simp only [Option.bind_eq_bind, Option.bind_eq_some_iff, Option.some.injEq] at hl
      obtain ⟨x', hx', r', hr', rfl⟩ := hl
      simp only [aop, Option.map_eq_some_iff, Prod.mk.injEq] at hv
      obtain ⟨v0, hv, rfl, rfl⟩ := hv
      obtain ⟨v', h1, h2⟩ := op_minmax R F (mx := true) hr' (opd_rel R F hx') hv
      rw [callOp_run (s := Builtin.max_ argTypes ty (args.map a.eval)) hcal (by simp [builtin])]
      refine (VSim.quiet R h2 ?_).op
      have : (args.map a.eval).toList = a.eval x :: r.map a.eval := by rw [Array.toList_map, hxs]; rfl
      simp only [Builtin.max_, this]
      simpa using h1
    · cases hl
  · cases hl

/-- **An operation that is no call of a Go function.** -/
theorem op_sim (R : HRel P lo n0 β h w) (F : FRel β fr a.tmps) {o : Oper} {op : AOp} (hl : lowOp P o.op = some op) {v : Value} (hv : aop lo op fr h = some (v, h1)) :
    OpSim P lo n0 β h w v h1 ((execOp a.eval o).run P w) := by
  obtain ⟨dst, op0, ty, pos, after, guard⟩ := o
  simp only at hl
  cases op0 <;> simp only [lowOp] at hl
  case move x =>
    simp only [Option.map_eq_some_iff] at hl
    obtain ⟨y, hy, rfl⟩ := hl
    simp only [aop, Option.some.injEq, Prod.mk.injEq] at hv
    obtain ⟨rfl, rfl⟩ := hv
    exact .quiet R (opd_rel R F hy) rfl
  case assign x =>
    simp only [Option.map_eq_some_iff] at hl
    obtain ⟨y, hy, rfl⟩ := hl
    simp only [aop, Option.some.injEq, Prod.mk.injEq] at hv
    obtain ⟨rfl, rfl⟩ := hv
    exact .quiet R (opd_rel R F hy) rfl
  case pick c x y =>
    simp only [Option.bind_eq_bind, Option.bind_eq_some_iff, Option.some.injEq] at hl
    obtain ⟨c', hc, x', hx, y', hy, rfl⟩ := hl
    simp only [aop] at hv
    split at hv
    · rename_i t hct
      have hcr := opd_rel R F hc
      rw [hct] at hcr
      simp only [Option.some.injEq, Prod.mk.injEq] at hv
      obtain ⟨rfl, rfl⟩ := hv
      refine .quiet R (v' := if t then a.eval x else a.eval y) ?_ ?_
      · cases t
        · exact opd_rel R F hy
        · exact opd_rel R F hx
      · simp only [execOp, hcr.bool_inv, asBool, Sem.run_bind, Sem.run_pure, Result.andThen_ok]
    · cases hv
  case alloc t =>
    simp only [Option.bind_eq_some_iff] at hl
    obtain ⟨z, hz, hl⟩ := hl
    split at hl
    · rename_i hc; cases hl
      simp only [aop, Option.some.injEq, Prod.mk.injEq] at hv
      obtain ⟨rfl, rfl⟩ := hv
      exact (op_alloc R hz hc).op
    · cases hl
  case box t x =>
    simp only [Option.map_eq_some_iff] at hl
    obtain ⟨y, hy, rfl⟩ := hl
    simp only [aop, Option.some.injEq, Prod.mk.injEq] at hv
    obtain ⟨rfl, rfl⟩ := hv
    exact (op_box R t (opd_rel R F hy)).op
  case build t parts =>
    simp only [Option.bind_eq_bind, Option.bind_eq_some_iff] at hl
    obtain ⟨z, hz, place, hpl, ps, hps, hl⟩ := hl
    split at hl
    · rename_i hc; cases hl
      simp only [aop, Option.map_eq_some_iff, Prod.mk.injEq] at hv
      obtain ⟨c, hf, rfl, rfl⟩ := hv
      exact (op_build R F hz hpl hps hc hf).op
    · cases hl
  case buildSlice t n parts =>
    simp only [Option.bind_eq_bind, Option.bind_eq_some_iff] at hl
    obtain ⟨d, hd, hl⟩ := hl
    split at hl
    · rename_i e
      simp only [Option.bind_eq_some_iff] at hl
      obtain ⟨s, hs, z, hz, ps, hps, hl⟩ := hl
      split at hl
      · rename_i hc
        obtain ⟨c1, c2, c3, c4⟩ := hc
        cases hl
        simp only [aop, Option.map_eq_some_iff, Prod.mk.injEq] at hv
        obtain ⟨c, hf, rfl, rfl⟩ := hv
        have hn : n < openCap := by
          have h1 : n * 1 ≤ n * s := Nat.mul_le_mul_left _ (Nat.pos_of_ne_zero c4)
          have : openCap = 18446744073709551616 := rfl
          omega
        exact (op_buildSlice R F hd hs hz hps c1 c2 c3 c4 hn hf).op
      · cases hl
    · cases hl
  case load t x =>
    simp only [Option.bind_eq_bind, Option.bind_eq_some_iff, Option.some.injEq] at hl
    obtain ⟨agg, hagg, y, hy, rfl⟩ := hl
    have hx := opd_rel R F hy
    cases agg with
    | none =>
      simp only [aop] at hv
      split at hv
      · rename_i b o' hp
        rw [hp] at hx
        simp only [Option.map_eq_some_iff, Prod.mk.injEq] at hv
        obtain ⟨v0, hc, rfl, rfl⟩ := hv
        exact (op_load R hagg hc hx).op
      · cases hv
    | some n =>
      simp only [aop] at hv
      split at hv
      · rename_i b o' hp
        rw [hp] at hx
        simp only [Option.map_eq_some_iff, Prod.mk.injEq] at hv
        obtain ⟨c, hc, rfl, rfl⟩ := hv
        exact (op_load R hagg (v := .agg c.toArray) (by simp [hc]) hx).op
      · cases hv
  case store t x y =>
    simp only [Option.bind_eq_bind, Option.bind_eq_some_iff, Option.some.injEq] at hl
    obtain ⟨n, hn, x', hx', y', hy', rfl⟩ := hl
    have hx := opd_rel R F hx'
    simp only [aop] at hv
    split at hv
    · rename_i b o' hp
      rw [hp] at hx
      split at hv
      · rename_i hc
        simp only [Option.map_eq_some_iff, Prod.mk.injEq] at hv
        obtain ⟨h', hs, rfl, rfl⟩ := hv
        exact (op_store R hn hx (opd_rel R F hy') hc.1 hc.2 hs).op
      · cases hv
    · cases hv
  case nilCheck x =>
    simp only [Option.map_eq_some_iff] at hl
    obtain ⟨y, hy, rfl⟩ := hl
    have hx := opd_rel R F hy
    simp only [aop] at hv
    split at hv
    · rename_i p hp
      rw [hp] at hx
      simp only [Option.some.injEq, Prod.mk.injEq] at hv
      obtain ⟨rfl, rfl⟩ := hv
      obtain ⟨p', hp', _⟩ := hx.ptr_inv
      refine .quiet R (v' := a.eval x) hx ?_
      simp only [execOp, hp', Sem.run_pure]
    · cases hv
  case binOp op t x y yt =>
    simp only [Option.bind_eq_bind, Option.bind_eq_some_iff] at hl
    obtain ⟨x', hx', y', hy', hl⟩ := hl
    have hx := opd_rel R F hx'
    have hy := opd_rel R F hy'
    refine VSim.op (s := (do eqGuard op t x y (a.eval x) (a.eval y); binOp op t (a.eval x) (a.eval y))) ?_
    have hbin : ∀ {op'}, op' = op → (binA op' (x'.ev fr) (y'.ev fr)).map (fun v => (v, h)) = some (v, h1) → VSim P lo n0 β h w v h1 ((do eqGuard op t x y (a.eval x) (a.eval y); binOp op t (a.eval x) (a.eval y) : Sem Value).run P w) := by
      intro op' he hb
      subst he
      simp only [Option.map_eq_some_iff, Prod.mk.injEq] at hb
      obtain ⟨v0, hb, rfl, rfl⟩ := hb
      exact op_bin R hx hy hb
    have heq : ∀ neg : Bool, op = (if neg then .neq else .eql) → eqOp P neg t x' y' = some ‹AOp› → VSim P lo n0 β h w v h1 ((do eqGuard op t x y (a.eval x) (a.eval y); binOp op t (a.eval x) (a.eval y) : Sem Value).run P w) := by
      intro neg he hq
      subst he
      simp only [eqOp, Option.bind_eq_some_iff] at hq
      obtain ⟨d, hd, hq⟩ := hq
      have nilCase : ∀ k, eqKOk k d = true → aop lo (.eqNil k neg x' y') fr h = some (v, h1) →
          VSim P lo n0 β h w v h1 ((do eqGuard (if neg then .neq else .eql) t x y (a.eval x) (a.eval y); binOp (if neg then .neq else .eql) t (a.eval x) (a.eval y) : Sem Value).run P w) := by
        intro k hk hv
        simp only [aop, Option.map_eq_some_iff, Prod.mk.injEq] at hv
        obtain ⟨b, hb, rfl, rfl⟩ := hv
        exact op_eqNil R hd hk hx hy hb
      have aggCase : isAggD d = true → (if P.eqGuardType P.depth t then none else (flatT P 50 t).map fun ks => AOp.eqAgg neg ks x' y') = some ‹AOp› → VSim P lo n0 β h w v h1 ((do eqGuard (if neg then .neq else .eql) t x y (a.eval x) (a.eval y); binOp (if neg then .neq else .eql) t (a.eval x) (a.eval y) : Sem Value).run P w) := by
        intro hag hq
        split at hq
        · cases hq
        · rename_i hg
          simp only [Option.map_eq_some_iff] at hq
          obtain ⟨ks, hks, rfl⟩ := hq
          simp only [aop, Option.map_eq_some_iff, Prod.mk.injEq] at hv
          obtain ⟨b, hb, rfl, rfl⟩ := hv
          exact op_eqAgg R hd hag (by simpa using hg) hks hx hy hb
      cases d <;> simp only at hq
      case bool =>
        cases hq
        simp only [aop] at hv
        split at hv
        · rename_i p q hp hq
          rw [hp] at hx; rw [hq] at hy
          simp only [Option.some.injEq, Prod.mk.injEq] at hv
          obtain ⟨rfl, rfl⟩ := hv
          exact op_eqBool R hd hx hy
        · cases hv
      case int k => cases hq; exact hbin rfl hv
      case string => cases hq; exact hbin rfl hv
      case slice e => cases hq; exact nilCase .slice rfl hv
      case map k e => cases hq; exact nilCase .map rfl hv
      case func p r vd => cases hq; exact nilCase .func rfl hv
      case struct fs => exact aggCase rfl hq
      case array n e => exact aggCase rfl hq
      all_goals cases hq
    cases op <;> simp only [lowBin] at hl <;> first
      | (cases hl; done)
      | exact heq false rfl hl
      | exact heq true rfl hl
      | (cases hl; exact hbin rfl hv)
  case unOp op t x =>
    simp only [Option.map_eq_some_iff] at hl
    obtain ⟨y, hy, rfl⟩ := hl
    simp only [aop, Option.map_eq_some_iff, Prod.mk.injEq] at hv
    obtain ⟨v0, hu, rfl, rfl⟩ := hv
    exact (op_un R (opd_rel R F hy) hu).op
  case convert s d x =>
    simp only [Option.bind_eq_bind, Option.bind_eq_some_iff] at hl
    obtain ⟨ds, hds, hl⟩ := hl
    split at hl
    · simp only [Option.bind_eq_some_iff] at hl
      obtain ⟨dd, hdd, hl⟩ := hl
      split at hl
      · simp only [Option.bind_eq_some_iff, Option.some.injEq] at hl
        obtain ⟨y, hy, rfl⟩ := hl
        have hx := opd_rel R F hy
        simp only [aop] at hv
        split at hv
        · rename_i p hp
          rw [hp] at hx
          simp only [Option.some.injEq, Prod.mk.injEq] at hv
          obtain ⟨rfl, rfl⟩ := hv
          exact (op_conv R hds hdd hx).op
        · cases hv
      · cases hl
    · cases hl
  case makeFunc fn first cap =>
    cases fn <;> simp only at hl <;> first
      | (cases hl; done)
      | skip
    simp only [Option.bind_eq_bind, Option.bind_eq_some_iff, Option.some.injEq] at hl
    obtain ⟨fs, hfs, cs, hcs, rfl⟩ := hl
    simp only [aop, Option.some.injEq, Prod.mk.injEq] at hv
    obtain ⟨rfl, rfl⟩ := hv
    have r1 := list_rel R F hfs
    have r2 := list_rel R F hcs
    refine VSim.op (.quiet R (v' := .func (.func _) (first.map a.eval) (cap.map a.eval)) (.func (.func _) ?_ ?_ ?_ ?_) rfl)
    · have := r1.1; simpa using this
    · intro i u u' p q; exact r1.2 i u u' (by simpa using p) (by simpa using q)
    · have := r2.1; simpa using this
    · intro i u u' p q; exact r2.2 i u u' (by simpa using p) (by simpa using q)
  case makeMap t r =>
    cases r <;> simp only at hl <;> first
      | (cases hl; done)
      | skip
    cases hl
    simp only [aop, Option.some.injEq, Prod.mk.injEq] at hv
    obtain ⟨rfl, rfl⟩ := hv
    refine VSim.op (.new R (o := .map [] 0) (o' := .map #[] 0) ⟨rfl, #[], rfl, ⟨rfl, fun i e e' p => by simp at p⟩⟩ (.map (r' := w.heap.size) (by simp [objSize])) ?_)
    simp [Instr.makeMap]
  case makeSlice t l c =>
    simp only [Option.bind_eq_bind, Option.bind_eq_some_iff] at hl
    obtain ⟨d, hd, hl⟩ := hl
    split at hl
    · simp only [Option.bind_eq_some_iff] at hl
      obtain ⟨i, hi, z, hz, hl⟩ := hl
      split at hl
      · rename_i hc
        simp only [Option.bind_eq_some_iff, Option.some.injEq] at hl
        obtain ⟨l', hl', c', hc', rfl⟩ := hl
        have hx := opd_rel R F hl'
        have hy := opd_rel R F hc'
        simp only [aop] at hv
        split at hv
        · rename_i p q hp hq
          rw [hp] at hx; rw [hq] at hy
          split at hv
          · rename_i hb
            simp only [Option.some.injEq, Prod.mk.injEq] at hv
            obtain ⟨rfl, rfl⟩ := hv
            exact (op_makeSlice R hd hi hz hc.1 hc.2.1 hc.2.2 hx hy hb).op
          · cases hv
        · cases hv
      · cases hl
    · cases hl
  case slice t x lo' hi mx =>
    simp only [Option.bind_eq_bind, Option.bind_eq_some_iff] at hl
    obtain ⟨d, hd, x', hx', l2, hl2, h2, hh2, m2, hm2, hl⟩ := hl
    have hx := opd_rel R F hx'
    have ors : ∀ {y : Option Operand} {y' : Option Opd}, lowOpt P y = some y' → ORel' β (y'.map (·.ev fr)) (y.map a.eval) := by
      intro y y' hy
      rcases opt_rel R F hy with ⟨rfl, rfl⟩ | ⟨p, q, rfl, rfl, hpq⟩
      · trivial
      · exact hpq
    cases d <;> simp only at hl <;> first
      | (cases hl; done)
      | skip
    · simp only [Option.bind_eq_some_iff, Option.some.injEq] at hl
      obtain ⟨s, hs, rfl⟩ := hl
      simp only [aop] at hv
      split at hv
      · rename_i b len cap hp
        rw [hp] at hx
        split at hv
        · rename_i hc
          simp only [Option.map_eq_some_iff, Prod.mk.injEq] at hv
          obtain ⟨v0, hv, rfl, rfl⟩ := hv
          exact (op_sliceS R hd hs hx hc.1 hc.2 (ors hl2) (ors hh2) (ors hm2) hv).op
        · cases hv
      · cases hv
    · split at hl
      · rename_i hn
        simp only [Option.bind_eq_some_iff, Option.some.injEq] at hl
        obtain ⟨s, hs, rfl⟩ := hl
        simp only [aop] at hv
        split at hv
        · rename_i p hp
          rw [hp] at hx
          simp only [Option.map_eq_some_iff, Prod.mk.injEq] at hv
          obtain ⟨v0, hv, rfl, rfl⟩ := hv
          exact (op_sliceA R hd hs hn hx (ors hl2) (ors hh2) (ors hm2) hv).op
        · cases hv
      · cases hl
  case fieldAddr s x f =>
    simp only [Option.bind_eq_bind, Option.bind_eq_some_iff] at hl
    obtain ⟨d, hd, hl⟩ := hl
    split at hl
    · simp only [Option.bind_eq_some_iff] at hl
      obtain ⟨fd, hfd, n, hn, hl⟩ := hl
      split at hl
      · cases hl
      · rename_i hn0
        simp only [Option.bind_eq_some_iff, Option.some.injEq] at hl
        obtain ⟨x', hx', rfl⟩ := hl
        have hx := opd_rel R F hx'
        simp only [aop] at hv
        split at hv
        · rename_i p hp
          rw [hp] at hx
          simp only [Option.some.injEq, Prod.mk.injEq] at hv
          obtain ⟨rfl, rfl⟩ := hv
          exact (op_fieldAddr R hd hfd hn hn0 hx).op
        · cases hv
    · cases hl
  case field t x f =>
    simp only [Option.bind_eq_bind, Option.bind_eq_some_iff] at hl
    obtain ⟨d, hd, hl⟩ := hl
    split at hl
    · simp only [Option.bind_eq_some_iff, Option.some.injEq] at hl
      obtain ⟨fd, hfd, agg, hagg, x', hx', rfl⟩ := hl
      have hx := opd_rel R F hx'
      simp only [aop] at hv
      split at hv
      · rename_i p hp
        rw [hp] at hx
        simp only [Option.map_eq_some_iff, Prod.mk.injEq] at hv
        obtain ⟨v0, hv, rfl, rfl⟩ := hv
        exact (op_part R hd hfd hagg hx hv).op
      · cases hv
    · cases hl
  case indexAddr t x i =>
    simp only [Option.bind_eq_bind, Option.bind_eq_some_iff] at hl
    obtain ⟨d, hd, x', hx', i', hi', hl⟩ := hl
    have hx := opd_rel R F hx'
    have hi := opd_rel R F hi'
    cases d <;> simp only at hl <;> first
      | (cases hl; done)
      | skip
    · simp only [Option.bind_eq_some_iff, Option.some.injEq] at hl
      obtain ⟨s, hs, rfl⟩ := hl
      simp only [aop] at hv
      split at hv
      · rename_i p q hp hq
        rw [hp] at hx; rw [hq] at hi
        split at hv
        · rename_i hb
          simp only [Option.some.injEq, Prod.mk.injEq] at hv
          obtain ⟨rfl, rfl⟩ := hv
          exact (op_indexAddrS R hd hs hx hi hb).op
        · cases hv
      · cases hv
    · simp only [Option.bind_eq_some_iff, Option.some.injEq] at hl
      obtain ⟨s, hs, rfl⟩ := hl
      simp only [aop] at hv
      split at hv
      · rename_i p q hp hq
        rw [hp] at hx; rw [hq] at hi
        split at hv
        · rename_i hb
          simp only [Option.some.injEq, Prod.mk.injEq] at hv
          obtain ⟨rfl, rfl⟩ := hv
          exact (op_indexAddrA R hd hs hx hi hb).op
        · cases hv
      · cases hv
  case index t x i =>
    simp only [Option.bind_eq_bind, Option.bind_eq_some_iff] at hl
    obtain ⟨d, hd, x', hx', i', hi', hl⟩ := hl
    have hx := opd_rel R F hx'
    have hi := opd_rel R F hi'
    cases d <;> simp only at hl <;> first
      | (cases hl; done)
      | skip
    · cases hl
      simp only [aop] at hv
      split at hv
      · rename_i p q hp hq
        rw [hp] at hx; rw [hq] at hi
        split at hv
        · rename_i hb
          simp only [Option.map_eq_some_iff, Prod.mk.injEq] at hv
          obtain ⟨v0, hv, rfl, rfl⟩ := hv
          exact (op_indexStr R hd hx hi hb hv).op
        · cases hv
      · cases hv
    · simp only [Option.bind_eq_some_iff, Option.some.injEq] at hl
      obtain ⟨s, hs, agg, hagg, rfl⟩ := hl
      simp only [aop] at hv
      split at hv
      · rename_i p q hp hq
        rw [hp] at hx; rw [hq] at hi
        split at hv
        · rename_i hb
          simp only [Option.map_eq_some_iff, Prod.mk.injEq] at hv
          obtain ⟨v0, hv, rfl, rfl⟩ := hv
          exact (op_indexA R hd hs hagg hx hi hb hv).op
        · cases hv
      · cases hv
  case lookup t m k ok =>
    simp only [Option.bind_eq_bind, Option.bind_eq_some_iff] at hl
    obtain ⟨d, hd, hl⟩ := hl
    split at hl
    · simp only [Option.bind_eq_some_iff] at hl
      obtain ⟨z, hz, hl⟩ := hl
      split at hl
      · rename_i hc
        simp only [Option.bind_eq_some_iff, Option.some.injEq] at hl
        obtain ⟨s, hs, m', hm', k', hk', rfl⟩ := hl
        simp only [aop] at hv
        split at hv
        · cases hv
        · rename_i es hes
          split at hv
          · cases hv
          · rename_i hok
            simp only [Option.map_eq_some_iff, Prod.mk.injEq] at hv
            obtain ⟨f, hf, rfl, rfl⟩ := hv
            exact (op_lookup R hd (keyShape_ty hs) hz hc (opd_rel R F hm') (opd_rel R F hk') hes (by simpa using hok) hf).op
      · cases hl
    · cases hl
  case insert t m k x =>
    simp only [Option.bind_eq_bind, Option.bind_eq_some_iff] at hl
    obtain ⟨d, hd, hl⟩ := hl
    split at hl
    · simp only [Option.bind_eq_some_iff, Option.some.injEq] at hl
      obtain ⟨s, hs, m', hm', k', hk', x', hx', rfl⟩ := hl
      have hm := opd_rel R F hm'
      simp only [aop] at hv
      split at hv
      · rename_i r hp
        rw [hp] at hm
        split at hv
        · rename_i hc
          split at hv
          · rename_i es clock hes
            simp only [Option.map_eq_some_iff, Prod.mk.injEq] at hv
            obtain ⟨f, hf, rfl, rfl⟩ := hv
            exact (op_mapUpdate R hd (keyShape_ty hs) hm (opd_rel R F hk') (opd_rel R F hx') hc.1 hes hc.2 hf).op
          · cases hv
        · cases hv
      · cases hv
    · cases hl
  case mapUpdate t m k x =>
    simp only [Option.bind_eq_bind, Option.bind_eq_some_iff] at hl
    obtain ⟨d, hd, hl⟩ := hl
    split at hl
    · simp only [Option.bind_eq_some_iff, Option.some.injEq] at hl
      obtain ⟨s, hs, m', hm', k', hk', x', hx', rfl⟩ := hl
      have hm := opd_rel R F hm'
      simp only [aop] at hv
      split at hv
      · rename_i r hp
        rw [hp] at hm
        split at hv
        · rename_i hc
          split at hv
          · rename_i es clock hes
            simp only [Option.map_eq_some_iff, Prod.mk.injEq] at hv
            obtain ⟨f, hf, rfl, rfl⟩ := hv
            exact (op_mapUpdate R hd (keyShape_ty hs) hm (opd_rel R F hk') (opd_rel R F hx') hc.1 hes hc.2 hf).op
          · cases hv
        · cases hv
      · cases hv
    · cases hl
  case mapEntry t m k =>
    simp only [Option.bind_eq_bind, Option.bind_eq_some_iff] at hl
    obtain ⟨d, hd, hl⟩ := hl
    split at hl
    · simp only [Option.bind_eq_some_iff] at hl
      obtain ⟨z, hz, hl⟩ := hl
      split at hl
      · rename_i hcz
        simp only [Option.bind_eq_some_iff, Option.some.injEq] at hl
        obtain ⟨s, hs, m', hm', k', hk', rfl⟩ := hl
        have hm := opd_rel R F hm'
        simp only [aop] at hv
        split at hv
        · rename_i r hp
          rw [hp] at hm
          split at hv
          · rename_i hc
            split at hv
            · rename_i es clock hes
              simp only [Option.map_eq_some_iff] at hv
              obtain ⟨f, hf, hv⟩ := hv
              exact (op_mapEntry R hd (keyShape_ty hs) hz hcz hm (opd_rel R F hk') hc.1 hes hc.2 hf hv).op
            · cases hv
          · cases hv
        · cases hv
      · cases hl
    · cases hl
  case entryStore t m s x =>
    simp only [Option.bind_eq_bind, Option.bind_eq_some_iff, Option.some.injEq] at hl
    obtain ⟨m', hm', s', hs', x', hx', rfl⟩ := hl
    have hm := opd_rel R F hm'
    have hs := opd_rel R F hs'
    simp only [aop] at hv
    split at hv
    · rename_i r k born hp hq
      rw [hp] at hm; rw [hq] at hs
      split at hv
      · rename_i hc
        split at hv
        · rename_i es clock hes
          split at hv
          · rename_i i hi
            simp only [Option.some.injEq, Prod.mk.injEq] at hv
            obtain ⟨rfl, rfl⟩ := hv
            exact (op_entryStore R t hm hs (opd_rel R F hx') hc hes hi).op
          · cases hv
        · cases hv
      · cases hv
    · cases hv
  case extract x i =>
    simp only [Option.bind_eq_bind, Option.bind_eq_some_iff, Option.some.injEq] at hl
    obtain ⟨x', hx', rfl⟩ := hl
    have hx := opd_rel R F hx'
    simp only [aop] at hv
    split at hv
    · rename_i p hp
      rw [hp] at hx
      simp only [Option.map_eq_some_iff, Prod.mk.injEq] at hv
      obtain ⟨v0, hv, rfl, rfl⟩ := hv
      exact (op_extract R hx hv).op
    · cases hv
  case call c =>
    simp only [lowCall] at hl
    split at hl
    · -- a function's value
      simp only [Option.bind_eq_bind, Option.bind_eq_some_iff, Option.some.injEq] at hl
      obtain ⟨f', hf', l', hl', rfl⟩ := hl
      simp [aop] at hv
    · cases hl
    · rename_i b hcal
      exact op_builtin R F hcal hl hv
  all_goals (cases hl)
end
end Go.RS

/- One operation of a region, whatever the frame's other slots hold; regions in the order of the text. -/
namespace Go.RS
open Go

theorem map_ev {ps : List (Nat × Nat × Opd)} {fr fr' : Fr} (h : ∀ x ∈ ps.map (·.2.2), x.ev fr = x.ev fr') : (ps.map fun p => (p.1, p.2.1, p.2.2.ev fr)) = ps.map fun p => (p.1, p.2.1, p.2.2.ev fr') := by
  apply List.map_congr_left
  intro p hp
  rw [h p.2.2 (List.mem_map.2 ⟨p, hp, rfl⟩)]
theorem opt_ev {x : Option Opd} {fr fr' : Fr} (h : ∀ y ∈ x.toList, y.ev fr = y.ev fr') : x.map (·.ev fr) = x.map (·.ev fr') := by
  cases x with
  | none => rfl
  | some y => simp [h y (by simp)]
theorem fold_ev {mx : Bool} {fr fr' : Fr} : ∀ {r : List Opd} {v : Value}, (∀ y ∈ r, y.ev fr = y.ev fr') → r.foldlM (fun a y => minmax2 mx a (y.ev fr)) v = r.foldlM (fun a y => minmax2 mx a (y.ev fr')) v
  | [], v, _ => rfl
  | y :: r, v, h => by
    rw [List.foldlM_cons, List.foldlM_cons, h y (by simp)]
    congr 1
    funext z
    exact fold_ev (fun u hu => h u (by simp [hu]))
theorem aop_congr {lo : Nat} {op : AOp} {fr fr' : Fr} (h : AH) (he : ∀ x ∈ op.opds, x.ev fr = x.ev fr') : aop lo op fr h = aop lo op fr' h := by
  cases op <;> simp only [AOp.opds, List.mem_cons, List.not_mem_nil, or_false, forall_eq_or_imp, forall_eq] at he
  case build z ps => simp only [aop, map_ev he]
  case buildSlice n z ps => simp only [aop, map_ev he]
  case load agg x => cases agg <;> simp only [aop, he]
  case makeFunc fn f c =>
    have e1 : f.map (·.ev fr) = f.map (·.ev fr') := List.map_congr_left fun x hx => he x (by simp [hx])
    have e2 : c.map (·.ev fr) = c.map (·.ev fr') := List.map_congr_left fun x hx => he x (by simp [hx])
    simp only [aop, e1, e2]
  case sliceS e x l hh m =>
    have e1 := opt_ev (x := l) (fr := fr) (fr' := fr') fun y hy => he.2 y (by simp only [List.mem_append]; exact .inl (.inl hy))
    have e2 := opt_ev (x := hh) (fr := fr) (fr' := fr') fun y hy => he.2 y (by simp only [List.mem_append]; exact .inl (.inr hy))
    have e3 := opt_ev (x := m) (fr := fr) (fr' := fr') fun y hy => he.2 y (by simp only [List.mem_append]; exact .inr hy)
    simp only [aop, he.1, e1, e2, e3]
  case sliceA n e x l hh m =>
    have e1 := opt_ev (x := l) (fr := fr) (fr' := fr') fun y hy => he.2 y (by simp only [List.mem_append]; exact .inl (.inl hy))
    have e2 := opt_ev (x := hh) (fr := fr) (fr' := fr') fun y hy => he.2 y (by simp only [List.mem_append]; exact .inl (.inr hy))
    have e3 := opt_ev (x := m) (fr := fr) (fr' := fr') fun y hy => he.2 y (by simp only [List.mem_append]; exact .inr hy)
    simp only [aop, he.1, e1, e2, e3]
  case minmax mx x r => simp only [aop, he.1, fold_ev (mx := mx) he.2]
  case len s x => cases s <;> simp only [aop, he]
  all_goals first
    | (simp only [aop]; done)
    | (simp only [aop, he]; done)
    | rfl

abbrev FW : Option Nat → Fence
  | none => Fence.wide
  | some l => Fence.wide.inRound l
theorem FW_fn (ro : Option Nat) (f : FuncId) : (FW ro).fn f := by cases ro <;> trivial
theorem FW_depth (ro : Option Nat) : (FW ro).depth.isSome = true → 1 ≤ 0 := by cases ro <;> intro h <;> cases h
theorem FW_round (ro : Option Nat) : (FW ro).round = ro := by cases ro <;> rfl

section
variable {P : Program} {lo n0 : Nat} {β : Bij} {h h1 : AH} {w : World} {fr : Fr} {a : Act}

def LoopAt (ro : Option Nat) (w : World) : Prop := ∀ l, ro = some l → ∃ L : Loop, w.heap[l]? = some (.loop L)
theorem LoopAt.ext {ro : Option Nat} {β1 : Bij} {w1 : World} (hl : LoopAt ro w) (e : Ext lo β h w β1 h1 w1) : LoopAt ro w1 := fun l hr => by
  obtain ⟨L, hL⟩ := hl l hr
  exact e.lps l L hL

/-- What following one operation gives, in whatever frame agrees on its operands. -/
def StepSim (P : Program) (lo n0 : Nat) (op : AOp) (fr : Fr) (h : AH) (v : Value) (h1 : AH) : Prop :=
  ∀ (o : Oper), lowOp P o.op = some op → ∀ (ro : Option Nat) (β : Bij) (w : World) (a : Act) (fr' : Fr), HRel P lo n0 β h w → (∀ x ∈ op.opds, x.ev fr' = x.ev fr) → FRel β fr' a.tmps → LoopAt ro w →
    ∀ (next : Act → World → Prop) (Q : Exit → Act → World → Prop), (∀ β1 w1 v', VRel β1 v v' → HRel P lo n0 β1 h1 w1 → Ext lo β h w β1 h1 w1 → next (a.put o.dst v') w1) → o.wpIn (FW ro) 0 P a w next Q

theorem semAt_low {o : Oper} {op : AOp} (hl : lowOp P o.op = some op) (ro : Option Nat) (ρ : Operand → Value) : o.semAt ro ρ = execOp ρ o := by
  cases ro with
  | none => rfl
  | some l =>
    unfold Oper.semAt
    split
    · rename_i c hd
      rw [hd] at hl; simp [lowOp] at hl
    · rfl
theorem StepSim.of_op {op : AOp} {v : Value} (hv : aop lo op fr h = some (v, h1)) : StepSim P lo n0 op fr h v h1 := by
  intro o hl ro β w a fr' R he F hlp next Q hnext
  refine ⟨fun f _ => FW_fn ro f, ?_⟩
  rw [semAt_low hl]
  rw [← aop_congr h he] at hv
  obtain ⟨β1, w1, v', nx, hr, hnx, hvv, hR, hE⟩ := op_sim R F hl hv
  rw [hr]
  rcases hnx with rfl | ⟨rfl, rfl⟩
  · exact hnext β1 w1 v' hvv hR hE
  · exact hnext β1 w1 undef hvv hR hE

theorem eqOp_load {n : Bool} {t : TypeId} {x y : Opd} {agg : Option Nat} {ad : Opd} (h : eqOp P n t x y = some (.load agg ad)) : False := by
  unfold eqOp at h
  rw [Option.bind_eq_some_iff] at h
  obtain ⟨d, _, h⟩ := h
  cases d <;> simp only [Option.some.injEq, reduceCtorEq] at h
  all_goals
    split at h
    · cases h
    · rw [Option.map_eq_some_iff] at h; obtain ⟨_, _, h⟩ := h; cases h
theorem lowOp_load {op : Op} {agg : Option Nat} {ad : Opd} (hl : lowOp P op = some (.load agg ad)) : ∃ t x, op = .load t x := by
  cases op <;> first
    | exact ⟨_, _, rfl⟩
    | (exfalso
       simp only [lowOp, lowBin, Option.bind_eq_bind, Option.bind_eq_some_iff] at hl
       obtain ⟨_, _, _, _, hl⟩ := hl
       split at hl <;> first | exact eqOp_load hl | cases hl
       done)
    | (exfalso
       simp only [lowOp, lowCall, lowBuiltin, Option.bind_eq_bind, Option.bind_eq_some_iff, Option.map_eq_some_iff] at hl
       repeat' (first | (cases hl; done) | split at hl | (obtain ⟨_, _, hl⟩ := hl) | (simp only [Option.bind_eq_some_iff, Option.map_eq_some_iff, Option.some.injEq, reduceCtorEq] at hl))
       all_goals (first | (rename_i h _ _; cases h; done) | (rename_i h _ _ _ _ ; cases h; done) | (rename_i h _ _ _; cases h; done) | (rename_i h _; cases h; done) | (rename_i h; cases h; done) | contradiction))
theorem load_val (R : HRel P lo n0 β h w) {t : TypeId} {agg : Option Nat} (ht : aggSz P t = some agg) {y : Opd} {fr' : Fr} {v : Value} (hv : aop lo (.load agg y) fr' h = some (v, h1)) :
    ∃ b o, y.ev fr' = .pointer (some ⟨b, o, none⟩) ∧ ∀ a', ARel β ⟨b, o, none⟩ a' → ∃ v', (loadVar t a').run P w = .ok v' w ∧ VRel β v v' := by
  cases agg with
  | none =>
    simp only [aop] at hv
    split at hv
    · rename_i b o' hp
      simp only [Option.map_eq_some_iff, Prod.mk.injEq] at hv
      obtain ⟨v0, hc, rfl, _⟩ := hv
      exact ⟨b, o', hp, fun a' ha => loadVar_rel R ht hc ha⟩
    · cases hv
  | some n =>
    simp only [aop] at hv
    split at hv
    · rename_i b o' hp
      simp only [Option.map_eq_some_iff, Prod.mk.injEq] at hv
      obtain ⟨c, hc, rfl, _⟩ := hv
      exact ⟨b, o', hp, fun a' ha => loadVar_rel R ht (v := .agg c.toArray) (by simp [hc]) ha⟩
    · cases hv
/-- A load leaves the world as it is. -/
theorem load_run {agg : Option Nat} {ad : Opd} {v : Value} (hv : aop lo (.load agg ad) fr h = some (v, h1)) {o : Oper} (hl : lowOp P o.op = some (.load agg ad)) (ro : Option Nat) {fr' : Fr}
    (R : HRel P lo n0 β h w) (he : ∀ x ∈ (AOp.load agg ad).opds, x.ev fr' = x.ev fr) (F : FRel β fr' a.tmps) (next : Act → World → Prop) (Q : Exit → Act → World → Prop)
    (hnext : ∀ v', VRel β v v' → next (a.put o.dst v') w) : o.wpIn (FW ro) 0 P a w next Q := by
  refine ⟨fun f _ => FW_fn ro f, ?_⟩
  rw [semAt_low hl]
  rw [← aop_congr h he] at hv
  obtain ⟨t, x, hop⟩ := lowOp_load hl
  rw [hop] at hl
  simp only [lowOp, Option.bind_eq_bind, Option.bind_eq_some_iff, Option.some.injEq, AOp.load.injEq] at hl
  obtain ⟨agg', hagg, y, hy, rfl, rfl⟩ := hl
  have hx := opd_rel R F hy
  obtain ⟨b, o', hp, hc⟩ := load_val R hagg hv
  rw [hp] at hx
  obtain ⟨a', hxe, ha⟩ := hx.ptr_inv
  obtain ⟨v', h2, h3⟩ := hc a' ha
  have hr : (execOp a.eval o).run P w = .ok (.value v') w := by
    unfold execOp
    rw [hop]
    simp only [hxe, Instr.loadAt, Sem.run_bind, sure_run, Result.andThen_ok, h2, Sem.run_pure]
  rw [hr]
  exact hnext v' h3

theorem eqOp_lookup {n : Bool} {t : TypeId} {x y : Opd} {fl : KS} {z : Value} {ok : Bool} {m k : Opd} (h : eqOp P n t x y = some (.lookup fl z ok m k)) : False := by
  unfold eqOp at h
  rw [Option.bind_eq_some_iff] at h
  obtain ⟨d, _, h⟩ := h
  cases d <;> simp only [Option.some.injEq, reduceCtorEq] at h
  all_goals
    split at h
    · cases h
    · rw [Option.map_eq_some_iff] at h; obtain ⟨_, _, h⟩ := h; cases h
theorem lowOp_lookup {op : Op} {fl : KS} {z : Value} {ok : Bool} {m k : Opd} (hl : lowOp P op = some (.lookup fl z ok m k)) : ∃ t m' k' ok', op = .lookup t m' k' ok' := by
  cases op <;> first
    | exact ⟨_, _, _, _, rfl⟩
    | (exfalso
       simp only [lowOp, lowBin, Option.bind_eq_bind, Option.bind_eq_some_iff] at hl
       obtain ⟨_, _, _, _, hl⟩ := hl
       split at hl <;> first | exact eqOp_lookup hl | cases hl
       done)
    | (exfalso
       simp only [lowOp, lowCall, lowBuiltin, Option.bind_eq_bind, Option.bind_eq_some_iff, Option.map_eq_some_iff] at hl
       repeat' (first | (cases hl; done) | split at hl | (obtain ⟨_, _, hl⟩ := hl) | (simp only [Option.bind_eq_some_iff, Option.map_eq_some_iff, Option.some.injEq, reduceCtorEq] at hl))
       all_goals (first | (rename_i h _ _; cases h; done) | (rename_i h _ _ _ _ ; cases h; done) | (rename_i h _ _ _; cases h; done) | (rename_i h _; cases h; done) | (rename_i h; cases h; done) | contradiction))
/-- A look at a map leaves the world as it is. -/
theorem lookup_run {fl : KS} {z : Value} {ok : Bool} {mm kk : Opd} {v : Value} (hv : aop lo (.lookup fl z ok mm kk) fr h = some (v, h1)) {o : Oper} (hl : lowOp P o.op = some (.lookup fl z ok mm kk)) (ro : Option Nat) {fr' : Fr}
    (R : HRel P lo n0 β h w) (he : ∀ x ∈ (AOp.lookup fl z ok mm kk).opds, x.ev fr' = x.ev fr) (F : FRel β fr' a.tmps) (next : Act → World → Prop) (Q : Exit → Act → World → Prop)
    (hnext : ∀ v', VRel β v v' → next (a.put o.dst v') w) : o.wpIn (FW ro) 0 P a w next Q := by
  refine ⟨fun f _ => FW_fn ro f, ?_⟩
  rw [semAt_low hl]
  rw [← aop_congr h he] at hv
  obtain ⟨t, m0, k0, ok0, hop⟩ := lowOp_lookup hl
  rw [hop] at hl
  simp only [lowOp, Option.bind_eq_bind, Option.bind_eq_some_iff] at hl
  obtain ⟨d, hd, hl⟩ := hl
  split at hl
  · simp only [Option.bind_eq_some_iff] at hl
    obtain ⟨z', hz, hl⟩ := hl
    split at hl
    · rename_i hc
      simp only [Option.bind_eq_some_iff, Option.some.injEq, AOp.lookup.injEq] at hl
      obtain ⟨s, hs, m', hm', k', hk', rfl, rfl, rfl, rfl, rfl⟩ := hl
      simp only [aop] at hv
      split at hv
      · cases hv
      · rename_i es hes
        split at hv
        · cases hv
        · rename_i hok
          simp only [Option.map_eq_some_iff, Prod.mk.injEq] at hv
          obtain ⟨f, hf, rfl, _⟩ := hv
          obtain ⟨v', h2, h3⟩ := op_lookup_run (ok := ok0) R hd (keyShape_ty hs) hz hc (opd_rel R F hm') (opd_rel R F hk') hes (by simpa using hok) hf
          have hr : (execOp a.eval o).run P w = .ok (.value v') w := by
            unfold execOp
            rw [hop]
            simp only [Sem.run_bind, Result.andThen_ok, h2, Sem.run_pure]
          rw [hr]
          exact hnext v' h3
    · cases hl
  · cases hl

/-- A run of a list of operations, each followed. -/
inductive Tr (P : Program) (lo n0 : Nat) (D : Bool) : List AOper → Fr → AH → Fr → AH → Prop where
  | nil {fr : Fr} {h : AH} : Tr P lo n0 D [] fr h fr h
  | skip {o : AOper} {os : List AOper} {fr : Fr} {h : AH} {fr1 : Fr} {h1 : AH} (hw : wantedA o.guard fr = false) (ht : Tr P lo n0 D os (putF fr o.dst undef) h fr1 h1) : Tr P lo n0 D (o :: os) fr h fr1 h1
  | step {o : AOper} {os : List AOper} {fr : Fr} {h : AH} {v : Value} {h' : AH} {fr1 : Fr} {h1 : AH} (hw : wantedA o.guard fr = true) (hs : StepSim P lo n0 o.op fr h v h') (hop : (∃ f args, o.op = .call f args) ∨ aop lo o.op fr h = some (v, h'))
      (hd : D = true → (o.op.still = true ∨ Grow h h' ∨ (o.seqd = true ∧ lateOk o fr h))) (hmono : h.size ≤ h'.size)
      (ht : Tr P lo n0 D os (putF fr o.dst v) h' fr1 h1) : Tr P lo n0 D (o :: os) fr h fr1 h1

theorem wanted_rel {ops : Array Oper} {o : Oper} {g : Option (Nat × Bool)} (hg : guardSlot ops o = some g) (hF : ∀ s w, g = some (s, w) → VRel β (fr s) (a.tmps.getD s undef)) : Region.wanted o (yielded ops a.tmps) = wantedA g fr := by
  unfold guardSlot at hg
  unfold Region.wanted wantedA
  cases hog : o.guard with
  | none => rw [hog] at hg; cases hg; rfl
  | some jw =>
    obtain ⟨j, want⟩ := jw
    rw [hog] at hg
    simp only [Option.map_eq_some_iff] at hg
    obtain ⟨d, hd, rfl⟩ := hg
    have hr := hF d want rfl
    simp only [yielded, hd, Option.bind_some]
    rw [Array.getD_eq_getD_getElem?] at hr
    cases ht : a.tmps[d]? with
    | none =>
      rw [ht] at hr
      simp only [Option.getD_none, undef] at hr
      generalize fr d = z at hr
      cases hr
      rfl
    | some u =>
      rw [ht] at hr
      simp only [Option.getD_some] at hr
      generalize fr d = z at hr
      cases hr <;> first | rfl | (rename_i b; cases b <;> cases want <;> rfl)

theorem put_rel (F : FRel β fr a.tmps) {N : Nat} (hN : a.tmps.size = N) {d : Option Nat} (hd : d.all (· < N) = true) {v v' : Value} (hv : VRel β v v') : FRel β (putF fr d v) (a.put d v').tmps ∧ (a.put d v').tmps.size = N := by
  cases d with
  | none => exact ⟨F, hN⟩
  | some d =>
    simp only [Option.all_some, decide_eq_true_eq] at hd
    exact ⟨F.set (by omega) hv, by simp [Act.put, hN]⟩
theorem put_defers (a : Act) (d : Option Nat) (v : Value) : (a.put d v).defers = a.defers := by cases d <;> rfl

theorem lowOper_some {ops : Array Oper} {N : Nat} {o : Oper} {op : AOp} {g : Option (Nat × Bool)} (hl : lowOper P N ops o = some (op, g)) : lowOp P o.op = some op ∧ guardSlot ops o = some g ∧ o.dst.all (· < N) = true := by
  simp only [lowOper, Option.bind_eq_bind, Option.bind_eq_some_iff] at hl
  obtain ⟨x, h1, y, h2, hl⟩ := hl
  split at hl
  · rename_i hd; cases hl; exact ⟨h1, h2, hd⟩
  · cases hl
theorem no_bad {D : Bool} {os : List AOper} {fr1 : Fr} (ht : Tr P lo n0 D (badOper :: os) fr h fr1 h1) : False := by
  cases ht with
  | skip hw _ => simp [badOper, wantedA] at hw
  | step hw hs hop _ _ _ =>
    rcases hop with ⟨f, args, he⟩ | he
    · simp [badOper] at he
    · simp [badOper, aop] at he

theorem lowText_some {ops : Array Oper} {N : Nat} {o : Oper} {D : Bool} {os : List AOper} {fr1 : Fr} (ht : Tr P lo n0 D (lowText P N ops o :: os) fr h fr1 h1) :
    ∃ op g, lowOper P N ops o = some (op, g) ∧ lowText P N ops o = { dst := o.dst, op, guard := g, seqd := false, late := [] } := by
  cases hx : lowOper P N ops o with
  | none => simp only [lowText, hx] at ht; exact (no_bad ht).elim
  | some x => exact ⟨x.1, x.2, rfl, by simp only [lowText, hx]⟩
/-- **A region that does not draw its order.** -/
theorem region_text {ops : Array Oper} {N : Nat} {ro : Option Nat} : ∀ (k : Nat) {l : List AOper} {fr : Fr} {h : AH} {fr1 : Fr} {h1 : AH} {β : Bij} {w : World} {a : Act}, Tr P lo n0 false l fr h fr1 h1 → l = (lowRegion P N ops false).drop k → k ≤ ops.size →
    HRel P lo n0 β h w → FRel β fr a.tmps → a.tmps.size = N → LoopAt ro w → ∀ (Q : Exit → Act → World → Prop),
    (∀ β1 w1 a1, FRel β1 fr1 a1.tmps → a1.tmps.size = N → a1.defers = a.defers → HRel P lo n0 β1 h1 w1 → Ext lo β h w β1 h1 w1 → Q .normal a1 w1) →
    wpOpsIn (FW ro) 0 P ops Q (List.range' k (ops.size - k)) a w := by
  intro k l fr h fr1 h1 β w a ht
  have hlen : (lowRegion P N ops false).length = ops.size := by simp [lowRegion]
  have common : ∀ {o : AOper} {os : List AOper} {k : Nat}, o :: os = (lowRegion P N ops false).drop k → k ≤ ops.size → k < ops.size ∧ os = (lowRegion P N ops false).drop (k + 1) ∧ ∀ hk : k < ops.size, o = lowText P N ops ops[k] := by
    intro o os k hl hk
    have hkl : k < ops.size := by
      have := congrArg List.length hl
      simp at this; omega
    refine ⟨hkl, ?_, fun hk2 => ?_⟩
    · have := congrArg List.tail hl
      simpa [List.tail_drop] using this
    · have := congrArg (·[0]?) hl
      simp only [List.getElem?_cons_zero, List.getElem?_drop, Nat.add_zero, lowRegion, if_true, List.getElem?_map, Array.getElem?_toList, Array.getElem?_eq_getElem hk2, Option.map_some, Option.some.injEq] at this
      exact this
  induction ht generalizing k β w a with
  | nil =>
    intro hl hk R F hN hlp Q hQ
    have : ops.size - k = 0 := by
      have := congrArg List.length hl
      simp at this; omega
    rw [this]
    exact hQ β w a F hN rfl R (.refl R)
  | @skip o os fr h fr1 h1 hw ht ih =>
    intro hl hk R F hN hlp Q hQ
    obtain ⟨hkl, hos, hoe⟩ := common hl hk
    have hoe := hoe hkl
    have ht0 : Tr P lo n0 false (o :: os) fr h fr1 h1 := .skip hw ht
    rw [hoe] at ht0
    obtain ⟨op, g, q5, q6⟩ := lowText_some ht0
    rw [q6] at hoe; subst hoe
    rw [show ops.size - k = (ops.size - (k + 1)) + 1 by omega, List.range'_succ]
    have ho : ops[k]? = some ops[k] := Array.getElem?_eq_getElem hkl
    obtain ⟨r1, r2, r3⟩ := lowOper_some q5
    rw [wpOpsIn_cons]
    unfold wpOpIn
    simp only [ho]
    have hwt : Region.wanted ops[k] (yielded ops a.tmps) = false := by rw [wanted_rel r2 (fun s _ _ => F s)]; exact hw
    simp only [hwt, Bool.false_eq_true, if_false]
    refine ⟨fun f _ => FW_fn ro f, ?_⟩
    obtain ⟨F2, N2⟩ := put_rel F hN r3 (.undef β)
    refine ih (k + 1) hos (by omega) R F2 N2 hlp Q (fun β1 w1 a1 x1 x2 x3 x4 x5 => hQ β1 w1 a1 x1 x2 ?_ x4 x5)
    rw [x3, put_defers]
  | @step o os fr h v h' fr1 h1 hw hs hop hd hmono ht ih =>
    intro hl hk R F hN hlp Q hQ
    obtain ⟨hkl, hos, hoe⟩ := common hl hk
    have hoe := hoe hkl
    have ht0 : Tr P lo n0 false (o :: os) fr h fr1 h1 := .step hw hs hop hd hmono ht
    rw [hoe] at ht0
    obtain ⟨op, g, q5, q6⟩ := lowText_some ht0
    rw [q6] at hoe; subst hoe
    rw [show ops.size - k = (ops.size - (k + 1)) + 1 by omega, List.range'_succ]
    have ho : ops[k]? = some ops[k] := Array.getElem?_eq_getElem hkl
    obtain ⟨r1, r2, r3⟩ := lowOper_some q5
    rw [wpOpsIn_cons]
    unfold wpOpIn
    simp only [ho]
    have hwt : Region.wanted ops[k] (yielded ops a.tmps) = true := by rw [wanted_rel r2 (fun s _ _ => F s)]; exact hw
    simp only [hwt, if_true]
    refine hs ops[k] r1 ro β w a fr R (fun _ _ => rfl) F hlp _ _ (fun β1 w1 v' hv R1 E1 => ?_)
    obtain ⟨F2, N2⟩ := put_rel (F.mono (E1.le R)) hN r3 hv
    refine ih (k + 1) hos (by omega) R1 F2 N2 (hlp.ext E1) Q (fun β2 w2 a2 x1 x2 x3 x4 x5 => hQ β2 w2 a2 x1 x2 ?_ x4 (E1.trans x5))
    rw [x3, put_defers]
end
end Go.RS

/- Regions that draw their order: whatever order is drawn, the text's result. -/
namespace Go.RS
open Go

/-! ### What must come before what -/
def bfOf (acc : Array Nat) (o : Oper) : Nat := o.after.foldl (fun s e => if Region.binds .any e then s ||| 2 ^ e.on ||| acc.getD e.on 0 else s) 0
theorem bf_bit {acc : Array Nat} {k : Nat} : ∀ (es : List Edge) (s : Nat), (es.foldl (fun s e => if Region.binds .any e then s ||| 2 ^ e.on ||| acc.getD e.on 0 else s) s).testBit k = true →
    s.testBit k = true ∨ ∃ e ∈ es, Region.binds .any e = true ∧ (e.on = k ∨ (acc.getD e.on 0).testBit k = true)
  | [], s, h => .inl h
  | e :: es, s, h => by
    simp only [List.foldl_cons] at h
    rcases bf_bit es _ h with h1 | ⟨e', h1, h2⟩
    · split at h1
      · rename_i hb
        rw [Nat.testBit_or, Nat.testBit_or, Nat.testBit_two_pow] at h1
        simp only [Bool.or_eq_true, decide_eq_true_eq] at h1
        rcases h1 with (h1 | h1) | h1
        · exact .inl h1
        · exact .inr ⟨e, by simp, hb, .inl h1⟩
        · exact .inr ⟨e, by simp, hb, .inr h1⟩
      · exact .inl h1
    · exact .inr ⟨e', by simp [h1], h2⟩
theorem before_list : ∀ (l : List Oper) (acc : Array Nat), ∃ r : Array Nat, l.foldl (fun acc o => acc.push (bfOf acc o)) acc = r ∧ r.size = acc.size + l.length ∧ (∀ k, k < acc.size → r[k]? = acc[k]?) ∧
    ∀ j o, l[j]? = some o → ∃ pre : Array Nat, pre.size = acc.size + j ∧ (∀ k, k < pre.size → pre[k]? = r[k]?) ∧ r[acc.size + j]? = some (bfOf pre o)
  | [], acc => ⟨acc, rfl, by simp, fun _ _ => rfl, fun j o h => by simp at h⟩
  | x :: l, acc => by
    obtain ⟨r, h1, h2, h3, h4⟩ := before_list l (acc.push (bfOf acc x))
    simp only [Array.size_push] at h2 h3 h4
    have hold : ∀ k, k < acc.size → r[k]? = acc[k]? := fun k hk => by rw [h3 k (by omega), Array.getElem?_push, if_neg (by omega)]
    refine ⟨r, h1, by simp; omega, hold, fun j o hj => ?_⟩
    cases j with
    | zero =>
      simp at hj; subst hj
      refine ⟨acc, by simp, fun k hk => (hold k hk).symm, ?_⟩
      rw [Nat.add_zero, h3 acc.size (by omega), Array.getElem?_push_size]
    | succ j =>
      obtain ⟨pre, g1, g2, g3⟩ := h4 j o (by simpa using hj)
      exact ⟨pre, by omega, g2, by rw [show acc.size + (j + 1) = acc.size + 1 + j by omega]; exact g3⟩
theorem before_eq (ops : Array Oper) : Region.before ops = ops.toList.foldl (fun acc o => acc.push (bfOf acc o)) #[] := by
  unfold Region.before
  rw [← Array.foldl_toList]
  rfl
theorem edges_lt {ops : Array Oper} (hE : edgesOk ops = true) {j : Nat} {o : Oper} (ho : ops[j]? = some o) {e : Edge} (he : e ∈ o.after) (hb : Region.binds .any e = true) : e.on < j := by
  have hj : j < ops.size := (Array.getElem?_eq_some_iff.1 ho).1
  have := List.all_eq_true.1 hE j (List.mem_range.2 hj)
  simp only [ho] at this
  have := Array.all_eq_true_iff_forall_mem.1 this e he
  simpa [hb] using this
theorem ordB_edge {ops : Array Oper} (hE : edgesOk ops = true) {k j : Nat} (h : ordB (Region.before ops) k j = true) :
    ∃ o e, ops[j]? = some o ∧ e ∈ o.after ∧ Region.binds .any e = true ∧ e.on < j ∧ (e.on = k ∨ ordB (Region.before ops) k e.on = true) := by
  obtain ⟨r, h1, h2, h3, h4⟩ := before_list ops.toList #[]
  rw [before_eq, h1] at h ⊢
  simp only [List.size_toArray, List.length_nil, Nat.zero_add, Array.length_toList] at h2 h4
  unfold ordB at h
  have hj : j < ops.size := by
    rcases Nat.lt_or_ge j ops.size with hj | hj
    · exact hj
    · rw [Array.getD_eq_getD_getElem?, Array.getElem?_eq_none (by omega)] at h
      simp at h
  have ho : ops[j]? = some ops[j] := Array.getElem?_eq_getElem hj
  obtain ⟨pre, g1, g2, g3⟩ := h4 j ops[j] (by rw [Array.getElem?_toList]; exact ho)
  rw [Array.getD_eq_getD_getElem?, g3, Option.getD_some] at h
  unfold bfOf at h
  rw [← Array.foldl_toList] at h
  rcases bf_bit _ _ h with h5 | ⟨e, h5, h6, h7⟩
  · simp at h5
  · have hlt := edges_lt hE ho (by simpa using h5) h6
    refine ⟨ops[j], e, ho, by simpa using h5, h6, hlt, h7.imp id fun h8 => ?_⟩
    unfold ordB
    rw [Array.getD_eq_getD_getElem?] at h8 ⊢
    rw [← g2 e.on (by omega)]; exact h8
theorem ordB_lt {ops : Array Oper} (hE : edgesOk ops = true) : ∀ (j : Nat) {k : Nat}, ordB (Region.before ops) k j = true → k < j := by
  intro j
  induction j using Nat.strongRecOn with
  | _ j ih =>
    intro k h
    obtain ⟨o, e, _, _, _, h4, h5⟩ := ordB_edge hE h
    rcases h5 with h5 | h5
    · omega
    · have := ih e.on h4 h5; omega

def Listed (l : Array Bool) (j : Nat) : Prop := l.getD j false = true
def ClosedL (ops : Array Oper) (l : Array Bool) : Prop := ∀ j, Listed l j → ∀ k, ordB (Region.before ops) k j = true → Listed l k
theorem ready_closed {ops : Array Oper} (hE : edgesOk ops = true) {l : Array Bool} (hc : ClosedL ops l) {i : Nat} (hi : i ∈ Region.ready .any ops l) : ∀ k, ordB (Region.before ops) k i = true → Listed l k := by
  intro k hk
  obtain ⟨_, o, ho, hall⟩ := mem_ready.1 hi
  obtain ⟨o', e, h1, h2, h3, h4, h5⟩ := ordB_edge hE hk
  rw [ho] at h1; cases h1
  have hl := hall e h2 h3
  rcases h5 with rfl | h5
  · exact hl
  · exact hc e.on hl k h5
theorem listed_set {l : Array Bool} {i j : Nat} (hi : i < l.size) : Listed (l.setIfInBounds i true) j ↔ j = i ∨ Listed l j := by
  unfold Listed
  by_cases h : i = j
  · subst h; simp [hi]
  · rw [getD_set_ne false h]
    constructor
    · exact .inr
    · rintro (h1 | h1)
      · exact absurd h1.symm h
      · exact h1

/-! ### The text's run as sequences -/
section
variable {P : Program} {lo n0 : Nat}

structure TrAt (P : Program) (lo n0 : Nat) (o : AOper) (f f1 : Fr) (g g1 : AH) (v : Value) : Prop where
  fr : f1 = putF f o.dst v
  sz : g.size ≤ g1.size
  st : (wantedA o.guard f = false ∧ v = undef ∧ g1 = g) ∨ (wantedA o.guard f = true ∧ StepSim P lo n0 o.op f g v g1 ∧ ((∃ x args, o.op = .call x args) ∨ aop lo o.op f g = some (v, g1)) ∧
    (o.op.still = true ∨ Grow g g1 ∨ (o.seqd = true ∧ lateOk o f g)))
theorem Tr.seq {l : List AOper} {fr : Fr} {h : AH} {fr1 : Fr} {h1 : AH} (ht : Tr P lo n0 true l fr h fr1 h1) :
    ∃ (frs : Nat → Fr) (hs : Nat → AH) (vs : Nat → Value), frs 0 = fr ∧ hs 0 = h ∧ frs l.length = fr1 ∧ hs l.length = h1 ∧ ∀ j o, l[j]? = some o → TrAt P lo n0 o (frs j) (frs (j + 1)) (hs j) (hs (j + 1)) (vs j) := by
  induction ht with
  | @nil fr h => exact ⟨fun _ => fr, fun _ => h, fun _ => undef, rfl, rfl, rfl, rfl, fun j o hj => by simp at hj⟩
  | @skip o os fr h fr1 h1 hw ht ih =>
    obtain ⟨frs, hs, vs, e1, e2, e3, e4, hall⟩ := ih
    refine ⟨fun n => match n with | 0 => fr | n + 1 => frs n, fun n => match n with | 0 => h | n + 1 => hs n, fun n => match n with | 0 => undef | n + 1 => vs n, rfl, rfl, e3, e4, fun j o' hj => ?_⟩
    cases j with
    | zero =>
      simp at hj; subst hj
      simp only [e1, e2]
      exact ⟨rfl, Nat.le_refl _, .inl ⟨hw, rfl, rfl⟩⟩
    | succ j => exact hall j o' (by simpa using hj)
  | @step o os fr h v h' fr1 h1 hw hsx hop hd hmono ht ih =>
    obtain ⟨frs, hs, vs, e1, e2, e3, e4, hall⟩ := ih
    refine ⟨fun n => match n with | 0 => fr | n + 1 => frs n, fun n => match n with | 0 => h | n + 1 => hs n, fun n => match n with | 0 => v | n + 1 => vs n, rfl, rfl, e3, e4, fun j o' hj => ?_⟩
    cases j with
    | zero =>
      simp at hj; subst hj
      simp only [e1, e2]
      exact ⟨rfl, hmono, .inr ⟨hw, hsx, hop, hd rfl⟩⟩
    | succ j => exact hall j o' (by simpa using hj)

/-- The weak form of 'Ext': the map may know fewer blocks. -/
structure ExtW (lo : Nat) (β : Bij) (h : AH) (w : World) (β1 : Bij) (h1 : AH) (w1 : World) : Prop where
  le : BLe β β1
  hs : h.size ≤ h1.size
  ws : w.heap.size ≤ w1.heap.size
  junk : ∀ (b : Nat) (x : Nat × (Nat × Nat)), β b = some x → h[b]? = some .junk → h1[b]? = some .junk
  keep : ∀ r : Nat, r < w.heap.size → (∀ (b : Nat) (d : Nat × Nat), lo ≤ b → β b = some (r, d) → h[b]? = some .junk) → w1.heap[r]? = w.heap[r]?
  fresh : ∀ (b r : Nat) (d : Nat × Nat), β b = none → β1 b = some (r, d) → w.heap.size ≤ r ∨ ∃ (b0 : Nat) (d0 : Nat × Nat), lo ≤ b0 ∧ β b0 = some (r, d0) ∧ h[b0]? ≠ some .junk
  lps : ∀ (r : Nat) (L : Loop), w.heap[r]? = some (.loop L) → ∃ L' : Loop, w1.heap[r]? = some (.loop L')
  env : w1.os = w.os ∧ w1.tape = w.tape ∧ w1.output = w.output
theorem ExtW.refl {β : Bij} {h : AH} {w : World} : ExtW lo β h w β h w :=
  ⟨.refl β, Nat.le_refl _, Nat.le_refl _, fun _ _ _ h => h, fun _ _ _ => rfl, fun b r d h1 h2 => (by rw [h1] at h2; cases h2), fun r L hL => ⟨L, hL⟩, rfl, rfl, rfl⟩
theorem ExtW.trans {β β1 β2 : Bij} {h h1 h2 : AH} {w w1 w2 : World} (e : ExtW lo β h w β1 h1 w1) (f : ExtW lo β1 h1 w1 β2 h2 w2) : ExtW lo β h w β2 h2 w2 := by
  refine ⟨e.le.trans f.le, Nat.le_trans e.hs f.hs, Nat.le_trans e.ws f.ws, fun b x hx hb => f.junk b x (e.le b x hx) (e.junk b x hx hb), ?_, ?_, fun r L hL => (let ⟨L1, h1⟩ := e.lps r L hL; f.lps r L1 h1), ⟨f.env.1.trans e.env.1, f.env.2.1.trans e.env.2.1, f.env.2.2.trans e.env.2.2⟩⟩
  · intro r hr hk
    refine (f.keep r (Nat.lt_of_lt_of_le hr e.ws) fun b d hlo hb => ?_).trans (e.keep r hr hk)
    cases hbb : β b with
    | some x =>
      have := e.le b x hbb
      rw [hb] at this; cases this
      exact e.junk b _ hbb (hk b d hlo hbb)
    | none =>
      rcases e.fresh b r d hbb hb with h2 | ⟨b0, d0, hl0, h3, h4⟩
      · omega
      · exact absurd (hk b0 d0 hl0 h3) h4
  · intro b r d hb hx
    cases hb1 : β1 b with
    | some x =>
      have := f.le b x hb1
      rw [hx] at this; cases this
      exact e.fresh b r d hb hb1
    | none =>
      rcases f.fresh b r d hb1 hx with h2 | ⟨b0, d0, hl0, h3, h4⟩
      · exact .inl (Nat.le_trans e.ws h2)
      · cases hb0 : β b0 with
        | some x =>
          have := e.le b0 x hb0
          rw [h3] at this; cases this
          exact .inr ⟨b0, d0, hl0, hb0, fun hj => h4 (e.junk b0 _ hb0 hj)⟩
        | none => exact e.fresh b0 r d0 hb0 h3
theorem Ext.weak {β β1 : Bij} {h h1 : AH} {w w1 : World} (R : HRel P lo n0 β h w) (e : Ext lo β h w β1 h1 w1) : ExtW lo β h w β1 h1 w1 :=
  ⟨e.le R, e.hs, e.ws, e.junk, e.keep, fun b r d hb hx => e.fresh b r d (by
    rcases Nat.lt_or_ge b h.size with hlt | hge
    · rw [e.agree b hlt, hb] at hx; cases hx
    · exact hge) hx, e.lps, e.env⟩

/-- A map cut down to the blocks below a number. -/
def cutB (β : Bij) (n : Nat) : Bij := fun b => if b < n then β b else none
theorem cutB_le (β : Bij) (n : Nat) : BLe (cutB β n) β := fun b x h => by
  unfold cutB at h; split at h
  · exact h
  · cases h
theorem cutB_some {β : Bij} {n b : Nat} {x : Nat × (Nat × Nat)} (h : cutB β n b = some x) : b < n ∧ β b = some x := by
  unfold cutB at h; split at h
  · rename_i hb; exact ⟨hb, h⟩
  · cases h
end
end Go.RS

/- Regions that draw their order (2): what holds between two operations. -/
namespace Go.RS
open Go

/-! ### A value that knows few blocks -/
theorem ARel.back {β γ : Bij} (hl : BLe β γ) {a a1 a2 : Addr} (h : ARel β a a1) (k : ARel γ a a2) : ARel β a a2 := by
  obtain ⟨s, s1, d, h1, h2⟩ := h
  obtain ⟨_, s2, d2, k1, k2⟩ := k
  have := hl _ _ h1
  rw [k1] at this
  simp only [Option.some.injEq, Prod.mk.injEq] at this
  obtain ⟨e1, e2⟩ := this
  subst e2
  exact ⟨s, s2, d2, by rw [h1, e1], k2⟩
theorem VRel.back {β γ : Bij} (hl : BLe β γ) {v v1 : Value} (h : VRel β v v1) : ∀ {v2 : Value}, VRel γ v v2 → VRel β v v2 := by
  induction h with
  | bool b => intro v2 k; cases k; exact .bool b
  | int k n => intro v2 k; cases k; exact .int _ n
  | string s => intro v2 k; cases k; exact .string s
  | ptr0 => intro v2 k; cases k; exact .ptr0
  | ptr h => intro v2 k; cases k with | ptr k => exact .ptr (h.back hl k)
  | sl0 n c => intro v2 k; cases k; exact .sl0 n c
  | @sl a a' n c c' h hc =>
    intro v2 k
    cases k with
    | @sl _ a2 _ _ c2 k kc =>
      refine .sl (h.back hl k) ⟨kc.1, kc.2.imp id fun ⟨s, h1, h2, h3⟩ => ⟨s, h1, h2, fun hs => ?_⟩⟩
      obtain ⟨r, d, h4, h5⟩ := h3 hs
      obtain ⟨_, _, d0, h6, _⟩ := h
      have := hl _ _ h6
      rw [h4] at this
      simp only [Option.some.injEq, Prod.mk.injEq] at this
      obtain ⟨e1, e2⟩ := this
      subst e2
      exact ⟨_, d, h6, h5⟩
    | sle => exact .sle _ _
  | sle a a1 =>
    intro v2 k
    cases k with
    | sl k kc =>
      obtain ⟨_, ⟨_, rfl, _⟩ | ⟨s, q, _⟩⟩ := kc
      · exact .sle _ _
      · exact absurd q (by have : openCap = 18446744073709551616 := rfl; omega)
    | sle => exact .sle _ _
  | map0 => intro v2 k; cases k; exact .map0
  | @map r r' h =>
    intro v2 k
    cases k with
    | map k =>
      have := hl _ _ h
      rw [k] at this
      simp only [Option.some.injEq, Prod.mk.injEq] at this
      rw [this.1]; exact .map h
  | nilFunc => intro v2 k; cases k; exact .nilFunc
  | @func f f' x x' c c' hf s1 h1 s2 h2 i1 i2 =>
    intro v2 k
    cases k with
    | @func _ f2 _ x2 _ c2 kf t1 k1 t2 k2 =>
      refine .func ?_ t1 (fun i v v' a b => ?_) t2 (fun i v v' a b => ?_)
      · cases hf with
        | func f => cases kf; exact .func f
        | yield hy =>
          cases kf with
          | yield ky =>
            have := hl _ _ hy
            rw [ky] at this
            simp only [Option.some.injEq, Prod.mk.injEq] at this
            rw [this.1]; exact .yield hy
      · have hi : i < x'.size := s1 ▸ (Array.getElem?_eq_some_iff.1 a).1
        exact i1 i v x'[i] a (Array.getElem?_eq_getElem hi) (k1 i v v' a b)
      · have hi : i < c'.size := s2 ▸ (Array.getElem?_eq_some_iff.1 a).1
        exact i2 i v c'[i] a (Array.getElem?_eq_getElem hi) (k2 i v v' a b)
  | nilIface => intro v2 k; cases k; exact .nilIface
  | @agg x x' s h ih =>
    intro v2 k
    cases k with
    | agg t k =>
      refine .agg t fun i v v' a b => ?_
      have hi : i < x'.size := s ▸ (Array.getElem?_eq_some_iff.1 a).1
      exact ih i v x'[i] a (Array.getElem?_eq_getElem hi) (k i v v' a b)
  | @tuple x x' s h ih =>
    intro v2 k
    cases k with
    | tuple t k =>
      refine .tuple t fun i v v' a b => ?_
      have hi : i < x'.size := s ▸ (Array.getElem?_eq_some_iff.1 a).1
      exact ih i v x'[i] a (Array.getElem?_eq_getElem hi) (k i v v' a b)
theorem ORel.back {P : Program} {β γ : Bij} (hl : BLe β γ) {wr : Prop} {o : AObj} {x1 x2 : Option Obj} {d : Nat × Nat} (h : ORel P β wr o x1 d) (k : ORel P γ wr o x2 d) : ORel P β wr o x2 d := by
  cases o with
  | cells c =>
    obtain ⟨c1, e1, z1, h1, h2, h3, h4⟩ := h
    obtain ⟨c2, e2, z2, k1, k2, k3, k4⟩ := k
    refine ⟨c2, e2, z2, k1, k2, k3, fun i v hv => ?_⟩
    obtain ⟨v1, _, h6⟩ := h4 i v hv
    obtain ⟨v2, k5, k6⟩ := k4 i v hv
    exact ⟨v2, k5, h6.back hl k6⟩
  | map es clock =>
    obtain ⟨hd, es1, h1, h2, h3⟩ := h
    obtain ⟨_, es2, k1, k2, k3⟩ := k
    refine ⟨hd, es2, k1, k2, fun i e e' a b => ?_⟩
    have hi : i < es1.size := by rw [h2]; exact (List.getElem?_eq_some_iff.1 a).1
    obtain ⟨p1, p2, p3⟩ := h3 i e es1[i] a (Array.getElem?_eq_getElem hi)
    obtain ⟨q1, q2, q3⟩ := k3 i e e' a b
    exact ⟨p1.back hl q1, p2.back hl q2, q3⟩
  | loop L =>
    obtain ⟨hd, L1, h1, h2⟩ := h
    obtain ⟨_, L2, k1, k2⟩ := k
    exact ⟨hd, L2, k1, ⟨fun i => (h2.fr i).back hl (k2.fr i), k2.ps, k2.pb, k2.a, k2.b, k2.st, k2.pj⟩⟩
  | junk => trivial

theorem cutB_mono {β γ : Bij} (hl : BLe β γ) (n : Nat) : BLe (cutB β n) (cutB γ n) := fun b x h => by
  obtain ⟨h1, h2⟩ := cutB_some h
  unfold cutB; rw [if_pos h1]; exact hl _ _ h2
theorem cutB_le_cutB (β : Bij) {m n : Nat} (h : m ≤ n) : BLe (cutB β m) (cutB β n) := fun b x hb => by
  obtain ⟨h1, h2⟩ := cutB_some hb
  unfold cutB; rw [if_pos (by omega)]; exact h2

section
variable {P : Program} {lo n0 : Nat}

/-- What holds of memory while a drawn region runs: 'hs e' is the abstract memory behind all writers that have run; of each block is known under which number all that it names lies. -/
structure MInv (P : Program) (lo n0 : Nat) (hs : Nat → AH) (n e : Nat) (β : Bij) (w : World) : Prop where
  en : e ≤ n
  dom : ∀ b r d, β b = some (r, d) → b < (hs n).size ∧ r < w.heap.size
  obj : ∀ b r d o, β b = some (r, d) → (hs e)[b]? = some o → ∀ m, m ≤ e → b < (hs m).size → (∀ k, m ≤ k → k < e → (hs (k + 1))[b]? = (hs k)[b]?) → ORel P (cutB β (hs m).size) (lo ≤ b) o w.heap[r]? d
  img : ∀ b r d, lo ≤ b → β b = some (r, d) → n0 ≤ r
  low : ∀ b r d, b < lo → β b = some (r, d) → r < n0
  inj : ∀ b b' r d d', lo ≤ b → lo ≤ b' → β b = some (r, d) → β b' = some (r, d') → (hs e)[b]? ≠ some .junk → (hs e)[b']? ≠ some .junk → b = b'
  glob : ∀ g, g < P.globals.size → ∃ z, β g = some (g, (0, z))
  gl : P.globals.size ≤ (hs 0).size
  los : lo ≤ (hs 0).size
  n0s : n0 ≤ w.heap.size
  early : ∀ b r d, β b = some (r, d) → (hs e).size ≤ b → ∃ i o, i < n ∧ (hs i).size ≤ b ∧ b < (hs (i + 1)).size ∧ (hs (i + 1))[b]? = some o ∧ ORel P (cutB β (hs (i + 1)).size) (lo ≤ b) o w.heap[r]? d

theorem mono_sizes {hs : Nat → AH} {n : Nat} (hm : ∀ j, j < n → (hs j).size ≤ (hs (j + 1)).size) {i j : Nat} (hij : i ≤ j) (hj : j ≤ n) : (hs i).size ≤ (hs j).size := by
  induction j with
  | zero => have : i = 0 := by omega
            subst this; exact Nat.le_refl _
  | succ j ih =>
    by_cases h : i = j + 1
    · subst h; exact Nat.le_refl _
    · exact Nat.le_trans (ih (by omega) (by omega)) (hm j (by omega))
theorem same_run {hs : Nat → AH} {b i j : Nat} (hij : i ≤ j) (h : ∀ k, i ≤ k → k < j → (hs (k + 1))[b]? = (hs k)[b]?) : (hs j)[b]? = (hs i)[b]? := by
  induction j with
  | zero => have : i = 0 := by omega
            subst this; rfl
  | succ j ih =>
    by_cases hc : i = j + 1
    · subst hc; rfl
    · rw [h j (by omega) (by omega)]
      exact ih (by omega) (fun k h1 h2 => h k h1 (by omega))

/-- The heap from which one operation runs. -/
theorem MInv.start {hs : Nat → AH} {n e i : Nat} {β : Bij} {w : World} (M : MInv P lo n0 hs n e β w) (hm : ∀ j, j < n → (hs j).size ≤ (hs (j + 1)).size) (hi : i ≤ e) {g : AH} (hg : g.size = (hs i).size)
    (hgb : ∀ b : Nat, b < (hs i).size → g[b]? = some .junk ∨ (g[b]? = (hs i)[b]? ∧ ∀ k, i ≤ k → k < e → (hs (k + 1))[b]? = (hs k)[b]?)) : HRel P lo n0 (cutB β (hs i).size) g w := by
  have hs0 : (hs 0).size ≤ (hs i).size := mono_sizes hm (Nat.zero_le _) (by have := M.en; omega)
  have hnj : ∀ b x, cutB β (hs i).size b = some x → g[b]? ≠ some .junk → (hs e)[b]? = g[b]? := fun b x hb hne => by
    obtain ⟨h1, _⟩ := cutB_some hb
    rcases hgb b h1 with h2 | ⟨h2, h3⟩
    · exact absurd h2 hne
    · rw [h2, same_run hi h3]
  refine ⟨fun b r d hb => ?_, fun b r d o hb ho => ?_, fun b r d hl hb => M.img b r d hl (cutB_some hb).2, fun b r d hl hb => M.low b r d hl (cutB_some hb).2, fun b b' r d d' hl hl' hb hb' hj hj' => ?_, fun x hx => ?_, ?_, M.n0s⟩
  · obtain ⟨h1, h2⟩ := cutB_some hb
    exact ⟨by rw [hg]; exact h1, (M.dom b r d h2).2⟩
  · obtain ⟨h1, h2⟩ := cutB_some hb
    rcases hgb b h1 with h3 | ⟨h3, h4⟩
    · rw [ho] at h3; cases h3; trivial
    · rw [ho] at h3
      exact M.obj b r d o h2 (by rw [same_run hi h4]; exact h3.symm) i hi h1 h4
  · exact M.inj b b' r d d' hl hl' (cutB_some hb).2 (cutB_some hb').2 (by rw [hnj b _ hb hj]; exact hj) (by rw [hnj b' _ hb' hj']; exact hj')
  · obtain ⟨z, hz⟩ := M.glob x hx
    refine ⟨z, ?_⟩
    unfold cutB
    rw [if_pos (by have := M.gl; omega)]; exact hz
  · rw [hg]; exact Nat.le_trans M.los hs0
end
end Go.RS

/- Regions that draw their order (3): an operation looks at its operands alone. -/
namespace Go.RS
open Go

section
variable {P : Program}

theorem arr_map_congr {xs : Array Operand} {ρ ρ' : Operand → Value} (h : ∀ x ∈ xs, ρ x = ρ' x) : xs.map ρ = xs.map ρ' := Array.map_congr_left h
theorem execOp_congr {o : Oper} {op : AOp} (hl : lowOp P o.op = some op) {ρ ρ' : Operand → Value} (he : ∀ x ∈ o.op.operands, ρ x = ρ' x) : execOp ρ o = execOp ρ' o := by
  obtain ⟨dst, op0, ty, pos, after, guard⟩ := o
  simp only at hl he
  cases op0 <;> first
    | (simp only [lowOp] at hl; cases hl; done)
    | (simp only [Op.operands, List.mem_toArray, List.mem_cons, List.not_mem_nil, or_false, forall_eq_or_imp, forall_eq] at he; simp only [execOp, he]; done)
    | skip
  case build t ps =>
    have : (ps.map fun (x : Nat × Operand) => match x with | (i, x) => (i, ρ x)) = ps.map fun (x : Nat × Operand) => match x with | (i, x) => (i, ρ' x) := by
      apply Array.map_congr_left
      intro p hp
      obtain ⟨i, x⟩ := p
      show (i, ρ x) = (i, ρ' x)
      rw [he x (by simp only [Op.operands, List.mem_toArray, List.mem_map]; exact ⟨(i, x), by simpa using hp, rfl⟩)]
    simp only [execOp, this]
  case buildSlice t n ps =>
    have : (ps.map fun (x : Nat × Operand) => match x with | (i, x) => (i, ρ x)) = ps.map fun (x : Nat × Operand) => match x with | (i, x) => (i, ρ' x) := by
      apply Array.map_congr_left
      intro p hp
      obtain ⟨i, x⟩ := p
      show (i, ρ x) = (i, ρ' x)
      rw [he x (by simp only [Op.operands, List.mem_toArray, List.mem_map]; exact ⟨(i, x), by simpa using hp, rfl⟩)]
    simp only [execOp, this]
  case makeFunc fn first cap =>
    simp only [Op.operands, Array.mem_append] at he
    have e1 : first.map ρ = first.map ρ' := arr_map_congr fun x hx => he x (.inl hx)
    have e2 : cap.map ρ = cap.map ρ' := arr_map_congr fun x hx => he x (.inr hx)
    simp only [execOp, e1, e2]
  case makeMap t r =>
    cases r with
    | none => rfl
    | some r => simp only [Op.operands, Option.toArray] at he; simp only [execOp, Option.map_some, he r (by simp)]
  case slice t x l h m =>
    simp only [Op.operands, Array.mem_append] at he
    have e0 : ρ x = ρ' x := he x (.inl (.inl (.inl (by simp))))
    have e1 : l.map ρ = l.map ρ' := by cases l with | none => rfl | some l => simp only [Option.map_some]; rw [he l (.inl (.inl (.inr (by simp))))]
    have e2 : h.map ρ = h.map ρ' := by cases h with | none => rfl | some l => simp only [Option.map_some]; rw [he l (.inl (.inr (by simp)))]
    have e3 : m.map ρ = m.map ρ' := by cases m with | none => rfl | some l => simp only [Option.map_some]; rw [he l (.inr (by simp))]
    simp only [execOp, e0, e1, e2, e3]
  case call c =>
    simp only [Op.operands, Call.operands, Array.mem_append] at he
    have e1 : c.args.map ρ = c.args.map ρ' := arr_map_congr fun x hx => he x (.inr hx)
    have : resolve ρ c ty = resolve ρ' c ty := by
      unfold resolve
      cases hc : c.callee with
      | value f => simp only [hc] at he; simp only [e1, he f (.inl (by simp))]
      | invoke r m => simp only [hc] at he; simp only [e1, he r (.inl (by simp))]
      | builtin b => simp only [e1]
    simp only [execOp, this]

theorem put_tmps {a a' : Act} (hs : a'.tmps.size = a.tmps.size) {d : Option Nat} {v v' : Value} (h : a'.put d v = a'.put d v') : a.put d v = a.put d v' := by
  cases d with
  | none => rfl
  | some d =>
    by_cases hd : d < a.tmps.size
    · have := congrArg (fun x : Act => x.tmps[d]?) h
      simp only [Act.put] at this
      rw [Array.getElem?_setIfInBounds_self_of_lt (by omega), Array.getElem?_setIfInBounds_self_of_lt (by omega)] at this
      cases this; rfl
    · simp only [Act.put]
      rw [Array.setIfInBounds_eq_of_size_le (by omega), Array.setIfInBounds_eq_of_size_le (by omega)]

theorem wpIn_congr {o : Oper} {op : AOp} (hl : lowOp P o.op = some op) {a a' : Act} (hs : a'.tmps.size = a.tmps.size) (he : ∀ x ∈ o.op.operands, a'.eval x = a.eval x) {ro : Option Nat} {w : World}
    {next : Act → World → Prop} {Q : Exit → Act → World → Prop}
    (h : o.wpIn (FW ro) 0 P a' w (fun a1 w1 => ∃ v, a1 = a'.put o.dst v ∧ next (a.put o.dst v) w1) (fun _ _ _ => False)) : o.wpIn (FW ro) 0 P a w next Q := by
  refine ⟨fun f _ => FW_fn ro f, ?_⟩
  have h2 := h.2
  rw [semAt_low hl] at h2 ⊢
  rw [execOp_congr hl he] at h2
  have key : ∀ v w1, (∃ v', a'.put o.dst v = a'.put o.dst v' ∧ next (a.put o.dst v') w1) → next (a.put o.dst v) w1 := by
    rintro v w1 ⟨v', h1, h2⟩
    rw [put_tmps hs h1]; exact h2
  generalize ((execOp a.eval o).run P w) = r at h2
  cases r with
  | ok nx w1 =>
    cases nx with
    | value v => exact key v w1 h2
    | skip => exact key undef w1 h2
    | enter f args =>
      rw [Oper.uponIn_enter] at h2 ⊢
      refine ⟨h2.1, h2.2.mono fun e w2 he => ?_⟩
      cases e with
      | returned v => exact key v w2 he
      | panicked c => exact he.elim
      | outgrown => exact (by obtain ⟨_, _, h⟩ := (he : LetsOut fun _ _ _ => False); exact h.elim)
    | row row args =>
      rw [Oper.uponIn_row] at h2 ⊢
      exact ⟨h2.1, h2.2.mono fun v w2 he => key v w2 he⟩
    | round l f tmps assign body =>
      rw [Oper.uponIn_round] at h2 ⊢
      refine ⟨h2.1, h2.2.mono fun e w2 he => ?_⟩
      cases e with
      | returned v => exact key v w2 he
      | panicked c => exact he.elim
      | outgrown => exact (by obtain ⟨_, _, h⟩ := (he : LetsOut fun _ _ _ => False); exact h.elim)
    | defer d =>
      obtain ⟨v, h3, _⟩ := h2
      have := congrArg (fun x : Act => x.defers.length) h3
      simp [put_defers] at this
    | _ => exact h2.elim
  | halt e w1 =>
    cases e <;> exact h2.elim
end
end Go.RS

/- Regions that draw their order (4): one operation and what holds of memory. -/
namespace Go.RS
open Go

section
variable {P : Program} {lo n0 : Nat}

/-- An operation that turns no block that lay (it may make new ones). -/
theorem MInv.grow {hs : Nat → AH} {n e i : Nat} {β : Bij} {w : World} (M : MInv P lo n0 hs n e β w) (hm : ∀ j, j < n → (hs j).size ≤ (hs (j + 1)).size) (hin : i < n)
    {g g' : AH} {β1 : Bij} {w1 : World} (hg : g.size = (hs i).size) (hg' : g'.size = (hs (i + 1)).size)
    (hgb : ∀ b : Nat, b < (hs i).size → g[b]? = some .junk ∨ (g[b]? = (hs e)[b]? ∧ g'[b]? = g[b]?))
    (hnb : ∀ b : Nat, (hs i).size ≤ b → b < (hs (i + 1)).size → g'[b]? = (hs (i + 1))[b]? ∧ ((i + 1 ≤ e ∧ ∀ k, i + 1 ≤ k → k < e → (hs (k + 1))[b]? = (hs k)[b]?) ∨ (e ≤ i ∧ (hs (i + 1))[b]? ≠ some .junk)))
    (hfree : ∀ b : Nat, (hs i).size ≤ b → b < (hs (i + 1)).size → β b = none)
    (R1 : HRel P lo n0 β1 g' w1) (E : Ext lo (cutB β (hs i).size) g w β1 g' w1) :
    ∃ γ : Bij, (∀ b, ¬ ((hs i).size ≤ b ∧ b < (hs (i + 1)).size) → γ b = β b) ∧ MInv P lo n0 hs n e γ w1 ∧ ExtW lo β (hs e) w γ (hs e) w1 ∧ BLe β1 (cutB γ (hs (i + 1)).size) := by
  have hs0 : (hs 0).size ≤ (hs i).size := mono_sizes hm (Nat.zero_le _) (by omega)
  have hsi : (hs i).size ≤ (hs (i + 1)).size := hm i hin
  have hse : i + 1 ≤ e → (hs (i + 1)).size ≤ (hs e).size := fun h => mono_sizes hm h M.en
  refine ⟨fun b => if (hs i).size ≤ b ∧ b < (hs (i + 1)).size then β1 b else β b, fun b hb => if_neg hb, ?_⟩
  generalize hγ : (fun b => if (hs i).size ≤ b ∧ b < (hs (i + 1)).size then β1 b else β b : Bij) = γ
  have γnew : ∀ b, (hs i).size ≤ b → b < (hs (i + 1)).size → γ b = β1 b := fun b h1 h2 => by rw [← hγ]; exact if_pos ⟨h1, h2⟩
  have γold : ∀ b, ¬ ((hs i).size ≤ b ∧ b < (hs (i + 1)).size) → γ b = β b := fun b h1 => by rw [← hγ]; exact if_neg h1
  have β1old : ∀ b, b < (hs i).size → β1 b = β b := fun b hb => by
    rw [E.agree b (by omega)]; unfold cutB; rw [if_pos hb]
  have leβ : BLe β γ := fun b x hb => by
    by_cases hn : (hs i).size ≤ b ∧ b < (hs (i + 1)).size
    · rw [hfree b hn.1 hn.2] at hb; cases hb
    · rw [γold b hn]; exact hb
  have leβ1 : BLe β1 (cutB γ (hs (i + 1)).size) := fun b x hb => by
    obtain ⟨r, d⟩ := x
    have hlt := (R1.dom b r d hb).1
    unfold cutB
    rw [if_pos (by omega)]
    by_cases hn : (hs i).size ≤ b
    · rw [γnew b hn (by omega)]; exact hb
    · rw [γold b (by omega), ← β1old b (by omega)]; exact hb
  have hnj : ∀ b, b < (hs i).size → g[b]? ≠ some .junk → g[b]? = (hs e)[b]? ∧ g'[b]? = g[b]? := fun b h1 h2 => (hgb b h1).resolve_left h2
  have hse2 : e ≤ i → (hs e).size ≤ (hs i).size := fun h => mono_sizes hm h (by omega)
  have nnew : ∀ b, (hs i).size ≤ b → b < (hs (i + 1)).size → ∀ o, (hs e)[b]? = some o → g'[b]? = some o := fun b h1 h2 o ho => by
    obtain ⟨h4, ⟨h3, h5⟩ | ⟨h3, _⟩⟩ := hnb b h1 h2
    · rw [h4, ← same_run h3 h5]; exact ho
    · have := (Array.getElem?_eq_some_iff.1 ho).1
      have := hse2 h3
      omega
  have nnj : ∀ b, (hs i).size ≤ b → b < (hs (i + 1)).size → (hs e)[b]? ≠ some .junk → g'[b]? ≠ some .junk := fun b h1 h2 hj => by
    obtain ⟨h4, ⟨h3, h5⟩ | ⟨h3, h6⟩⟩ := hnb b h1 h2
    · rw [h4, ← same_run h3 h5]; exact hj
    · rw [h4]; exact h6
  have keepM : ∀ b r d, β b = some (r, d) → (hs e)[b]? ≠ some .junk → ¬ (b < (hs i).size ∧ g[b]? ≠ some .junk) → w1.heap[r]? = w.heap[r]? := fun b r d hb hj hnot => by
    refine E.keep r (M.dom b r d hb).2 fun b' d' hlo hb' => ?_
    obtain ⟨h1, h2⟩ := cutB_some hb'
    by_cases hg : g[b']? = some .junk
    · exact hg
    · exfalso
      have h3 := (hnj b' h1 hg).1
      by_cases hlb : lo ≤ b
      · have := M.inj b b' r d d' hlb hlo hb h2 hj (by rw [← h3]; exact hg)
        subst this
        exact hnot ⟨h1, hg⟩
      · have := M.low b r d (by omega) hb
        have := M.img b' r d' hlo h2
        omega
  refine ⟨⟨M.en, fun b r d hb => ?_, fun b r d o hb ho m hme hbm hst => ?_, fun b r d hl hb => ?_, fun b r d hl hb => ?_, fun b b' r d d' hl hl' hb hb' hj hj' => ?_, fun x hx => ?_, M.gl, M.los, Nat.le_trans M.n0s E.ws, fun b r d hb hge => ?_⟩,
    ⟨leβ, Nat.le_refl _, E.ws, fun _ _ _ h => h, fun r hr hk => ?_, fun b r d hb hx => ?_, E.lps, E.env⟩, leβ1⟩
  · by_cases hn : (hs i).size ≤ b ∧ b < (hs (i + 1)).size
    · rw [γnew b hn.1 hn.2] at hb
      exact ⟨Nat.lt_of_lt_of_le hn.2 (mono_sizes hm (show i + 1 ≤ n by omega) (Nat.le_refl _)), (R1.dom b r d hb).2⟩
    · rw [γold b hn] at hb
      have := M.dom b r d hb
      exact ⟨this.1, Nat.lt_of_lt_of_le this.2 E.ws⟩
  · by_cases hn : (hs i).size ≤ b ∧ b < (hs (i + 1)).size
    · rw [γnew b hn.1 hn.2] at hb
      have him : i + 1 ≤ m := by
        by_cases hmi : m ≤ i
        · have := mono_sizes hm hmi (by omega); omega
        · omega
      have := R1.obj b r d o hb (nnew b hn.1 hn.2 o ho)
      exact this.mono (leβ1.trans (cutB_le_cutB γ (mono_sizes hm him (by have := M.en; omega))))
    · rw [γold b hn] at hb
      have hM := M.obj b r d o hb ho m hme hbm hst
      by_cases hc : b < (hs i).size ∧ g[b]? ≠ some .junk
      · obtain ⟨h1, h2⟩ := hnj b hc.1 hc.2
        have := R1.obj b r d o (by rw [β1old b hc.1]; exact hb) (by rw [h2, h1]; exact ho)
        exact (hM.back ((cutB_le β _).trans leβ) (this.mono (leβ1.trans (cutB_le γ _)))).mono (cutB_mono leβ _)
      · by_cases hoj : o = .junk
        · subst hoj; trivial
        · rw [keepM b r d hb (by rw [ho]; intro h; cases h; exact hoj rfl) hc]
          exact hM.mono (cutB_mono leβ _)
  · by_cases hn : (hs i).size ≤ b ∧ b < (hs (i + 1)).size
    · rw [γnew b hn.1 hn.2] at hb; exact R1.img b r d hl hb
    · rw [γold b hn] at hb; exact M.img b r d hl hb
  · by_cases hn : (hs i).size ≤ b ∧ b < (hs (i + 1)).size
    · rw [γnew b hn.1 hn.2] at hb; exact R1.low b r d hl hb
    · rw [γold b hn] at hb; exact M.low b r d hl hb
  · have mixed : ∀ b b' d d', lo ≤ b → lo ≤ b' → γ b = some (r, d) → γ b' = some (r, d') → (hs e)[b]? ≠ some .junk → (hs e)[b']? ≠ some .junk → ¬ ((hs i).size ≤ b ∧ b < (hs (i + 1)).size) → ((hs i).size ≤ b' ∧ b' < (hs (i + 1)).size) → b = b' := by
      intro b b' d d' hl hl' hb hb' hj hj' hn hn'
      rw [γold b hn] at hb
      rw [γnew b' hn'.1 hn'.2] at hb'
      rcases E.fresh b' r d' (by omega) hb' with h1 | ⟨b0, d0, hl0, h3, h4⟩
      · have := (M.dom b r d hb).2; omega
      · obtain ⟨h5, h6⟩ := cutB_some h3
        obtain ⟨h7, h8⟩ := hnj b0 h5 h4
        have h9 := M.inj b b0 r d d0 hl hl0 hb h6 hj (by rw [← h7]; exact h4)
        subst h9
        exact R1.inj b b' r d d' hl hl' (by rw [β1old b h5]; exact hb) hb' (by rw [h8]; exact h4) (nnj b' hn'.1 hn'.2 hj')
    by_cases hn : (hs i).size ≤ b ∧ b < (hs (i + 1)).size <;> by_cases hn' : (hs i).size ≤ b' ∧ b' < (hs (i + 1)).size
    · rw [γnew b hn.1 hn.2] at hb
      rw [γnew b' hn'.1 hn'.2] at hb'
      exact R1.inj b b' r d d' hl hl' hb hb' (nnj b hn.1 hn.2 hj) (nnj b' hn'.1 hn'.2 hj')
    · exact (mixed b' b d' d hl' hl hb' hb hj' hj hn' hn).symm
    · exact mixed b b' d d' hl hl' hb hb' hj hj' hn hn'
    · rw [γold b hn] at hb
      rw [γold b' hn'] at hb'
      exact M.inj b b' r d d' hl hl' hb hb' hj hj'
  · obtain ⟨z, hz⟩ := M.glob x hx
    exact ⟨z, leβ _ _ hz⟩
  · by_cases hn : (hs i).size ≤ b ∧ b < (hs (i + 1)).size
    · rw [γnew b hn.1 hn.2] at hb
      have ho : (hs (i + 1))[b]? = some ((hs (i + 1))[b]'hn.2) := Array.getElem?_eq_getElem hn.2
      exact ⟨i, _, hin, hn.1, hn.2, ho, (R1.obj b r d _ hb (by rw [(hnb b hn.1 hn.2).1]; exact ho)).mono leβ1⟩
    · rw [γold b hn] at hb
      obtain ⟨q, o, q1, q2, q3, q4, q5⟩ := M.early b r d hb hge
      have hnone : (hs e)[b]? = none := Array.getElem?_eq_none hge
      refine ⟨q, o, q1, q2, q3, q4, ?_⟩
      rw [keepM b r d hb (by rw [hnone]; simp) (fun h => by
        have := (hnj b h.1 h.2).1
        rw [hnone, Array.getElem?_eq_none_iff] at this
        omega)]
      exact q5.mono (cutB_mono leβ _)
  · refine E.keep r hr fun b d hlo hb => ?_
    obtain ⟨h1, h2⟩ := cutB_some hb
    by_cases hg : g[b]? = some .junk
    · exact hg
    · rw [(hnj b h1 hg).1]; exact hk b d hlo h2
  · by_cases hn : (hs i).size ≤ b ∧ b < (hs (i + 1)).size
    · rw [γnew b hn.1 hn.2] at hx
      rcases E.fresh b r d (by omega) hx with h1 | ⟨b0, d0, hl0, h3, h4⟩
      · exact .inl h1
      · obtain ⟨h5, h6⟩ := cutB_some h3
        exact .inr ⟨b0, d0, hl0, h6, by rw [← (hnj b0 h5 h4).1]; exact h4⟩
    · rw [γold b hn, hb] at hx; cases hx

/-- An operation that turns memory: all writers before it have run. -/
theorem MInv.write {hs : Nat → AH} {n e e' : Nat} {β : Bij} {w : World} (M : MInv P lo n0 hs n e β w) (hm : ∀ j, j < n → (hs j).size ≤ (hs (j + 1)).size) (hen : e < n)
    (hfree : ∀ b : Nat, (hs e).size ≤ b → b < (hs (e + 1)).size → β b = none)
    {β1 : Bij} {w1 : World} (R1 : HRel P lo n0 β1 (hs (e + 1)) w1) (E : Ext lo (cutB β (hs e).size) (hs e) w β1 (hs (e + 1)) w1) (he : e + 1 ≤ e') (he' : e' ≤ n)
    (hst : ∀ (k : Nat), e + 1 ≤ k → k < e' → Grow (hs k) (hs (k + 1))) :
    ∃ γ : Bij, (∀ b, ¬ ((hs e).size ≤ b ∧ b < (hs (e + 1)).size) → γ b = β b) ∧ MInv P lo n0 hs n e' γ w1 ∧ ExtW lo β (hs e) w γ (hs e') w1 ∧ BLe β1 (cutB γ (hs (e + 1)).size) := by
  have hse : (hs (e + 1)).size ≤ (hs e').size := mono_sizes hm he he'
  have hsn : (hs (e + 1)).size ≤ (hs n).size := mono_sizes hm (show e + 1 ≤ n by omega) (Nat.le_refl _)
  have hee : (hs e).size ≤ (hs (e + 1)).size := hm e hen
  have β1old : ∀ b, b < (hs e).size → β1 b = β b := fun b hb => by rw [E.agree b hb]; unfold cutB; rw [if_pos hb]
  refine ⟨fun b => if b < (hs (e + 1)).size then β1 b else β b, fun b hb => ?_, ?_⟩
  · by_cases h : b < (hs (e + 1)).size
    · simp only [if_pos h]; exact β1old b (by omega)
    · simp only [if_neg h]
  generalize hγ : (fun b => if b < (hs (e + 1)).size then β1 b else β b : Bij) = γ
  have γlow : ∀ b, b < (hs (e + 1)).size → γ b = β1 b := fun b h => by rw [← hγ]; exact if_pos h
  have γhigh : ∀ b, ¬ b < (hs (e + 1)).size → γ b = β b := fun b h => by rw [← hγ]; exact if_neg h
  have leβ : BLe β γ := fun b x hb => by
    by_cases h : b < (hs (e + 1)).size
    · rw [γlow b h]
      by_cases h2 : b < (hs e).size
      · rw [β1old b h2]; exact hb
      · rw [hfree b (by omega) h] at hb; cases hb
    · rw [γhigh b h]; exact hb
  have leβ1 : BLe β1 (cutB γ (hs (e + 1)).size) := fun b x hb => by
    obtain ⟨r, d⟩ := x
    have := (R1.dom b r d hb).1
    unfold cutB; rw [if_pos this, γlow b this]; exact hb
  have hgrow : ∀ (i b : Nat), e + 1 ≤ i → i ≤ e' → b < (hs i).size → (hs e')[b]? = (hs i)[b]? := fun i b h1 h2 h3 => same_run h2 fun k k1 k2 =>
    (hst k (by omega) k2).2 b (Nat.lt_of_lt_of_le h3 (mono_sizes hm k1 (by omega)))
  have same : ∀ b, b < (hs (e + 1)).size → (hs e')[b]? = (hs (e + 1))[b]? := fun b hb => hgrow _ b (Nat.le_refl _) he hb
  -- blocks that were made early
  have hearly : ∀ b r d, β b = some (r, d) → ¬ b < (hs (e + 1)).size → ∃ i o, i < n ∧ e + 1 ≤ i ∧ (hs i).size ≤ b ∧ b < (hs (i + 1)).size ∧ (hs (i + 1))[b]? = some o ∧ ORel P (cutB γ (hs (i + 1)).size) (lo ≤ b) o w1.heap[r]? d := fun b r d hb hnb => by
    obtain ⟨i, o, q1, q2, q3, q4, q5⟩ := M.early b r d hb (by omega)
    have hnone : (hs e)[b]? = none := Array.getElem?_eq_none (by omega)
    have hie : e + 1 ≤ i := by
      by_cases h : e + 1 ≤ i
      · exact h
      · have := mono_sizes hm (show i + 1 ≤ e + 1 by omega) (by omega); omega
    refine ⟨i, o, q1, hie, q2, q3, q4, ?_⟩
    rw [E.keep r (M.dom b r d hb).2 fun b' d' hlo hb' => ?_]
    · exact q5.mono (cutB_mono leβ _)
    · obtain ⟨h1, h2⟩ := cutB_some hb'
      refine Classical.byContradiction fun hj => ?_
      have hlb : lo ≤ b := by have := M.los; have := mono_sizes hm (Nat.zero_le e) (by omega); omega
      have := M.inj b b' r d d' hlb hlo hb h2 (by rw [hnone]; simp) hj
      omega
  have mixed : ∀ b b' r d d', lo ≤ b → lo ≤ b' → γ b = some (r, d) → γ b' = some (r, d') → (hs e')[b]? ≠ some .junk → b < (hs (e + 1)).size → ¬ b' < (hs (e + 1)).size → False := by
    intro b b' r d d' hl hl' hb hb' hj h1 h2
    rw [γlow b h1] at hb
    rw [γhigh b' h2] at hb'
    have hnone : (hs e)[b']? = none := Array.getElem?_eq_none (by omega)
    by_cases h3 : b < (hs e).size
    · rw [β1old b h3] at hb
      have := M.inj b b' r d d' hl hl' hb hb' (fun hjj => hj (by
        rw [same b h1]
        exact E.junk b (r, d) (by unfold cutB; rw [if_pos h3]; exact hb) hjj)) (by rw [hnone]; simp)
      omega
    · rcases E.fresh b r d (by omega) hb with h4 | ⟨b0, d0, hl0, h4, h5⟩
      · have := (M.dom b' r d' hb').2; omega
      · obtain ⟨h6, h7⟩ := cutB_some h4
        have := M.inj b0 b' r d0 d' hl0 hl' h7 hb' h5 (by rw [hnone]; simp)
        omega
  refine ⟨⟨he', fun b r d hb => ?_, fun b r d o hb ho m hme hbm hsm => ?_, fun b r d hl hb => ?_, fun b r d hl hb => ?_, fun b b' r d d' hl hl' hb hb' hj hj' => ?_, fun x hx => ?_, M.gl, M.los, R1.n0s, fun b r d hb hge => ?_⟩,
    ⟨leβ, Nat.le_trans E.hs hse, E.ws, fun b x hb hj => ?_, fun r hr hk => ?_, fun b r d hb hx => ?_, E.lps, E.env⟩, leβ1⟩
  · by_cases h : b < (hs (e + 1)).size
    · rw [γlow b h] at hb; exact ⟨by omega, (R1.dom b r d hb).2⟩
    · rw [γhigh b h] at hb
      have := M.dom b r d hb
      exact ⟨this.1, Nat.lt_of_lt_of_le this.2 E.ws⟩
  · by_cases h : b < (hs (e + 1)).size
    · rw [γlow b h] at hb
      rw [same b h] at ho
      have h1 := R1.obj b r d o hb ho
      by_cases hmi : e + 1 ≤ m
      · exact h1.mono (leβ1.trans (cutB_le_cutB γ (mono_sizes hm hmi (by omega))))
      · have hbe : b < (hs e).size := Nat.lt_of_lt_of_le hbm (mono_sizes hm (show m ≤ e by omega) (by omega))
        have h2 := M.obj b r d o (by rw [← β1old b hbe]; exact hb) (by rw [← hsm e (by omega) (by omega)]; exact ho) m (by omega) hbm (fun k k1 k2 => hsm k k1 (by omega))
        exact (h2.back ((cutB_le β _).trans leβ) (h1.mono (leβ1.trans (cutB_le γ _)))).mono (cutB_mono leβ _)
    · rw [γhigh b h] at hb
      obtain ⟨i, o', q1, q2, q3, q4, q5, q6⟩ := hearly b r d hb h
      have hlt := (Array.getElem?_eq_some_iff.1 ho).1
      have hie : i < e' := by
        by_cases hc : i < e'
        · exact hc
        · have := mono_sizes hm (show e' ≤ i by omega) (by omega); omega
      have hoo : o = o' := by
        rw [hgrow (i + 1) b (by omega) (by omega) q4, q5] at ho
        exact (Option.some.inj ho).symm
      subst hoo
      have him : i + 1 ≤ m := by
        by_cases hc : i + 1 ≤ m
        · exact hc
        · have := mono_sizes hm (show m ≤ i by omega) (by omega); omega
      exact q6.mono (cutB_le_cutB γ (mono_sizes hm him (by omega)))
  · by_cases h : b < (hs (e + 1)).size
    · rw [γlow b h] at hb; exact R1.img b r d hl hb
    · rw [γhigh b h] at hb; exact M.img b r d hl hb
  · by_cases h : b < (hs (e + 1)).size
    · rw [γlow b h] at hb; exact R1.low b r d hl hb
    · rw [γhigh b h] at hb; exact M.low b r d hl hb
  · by_cases h : b < (hs (e + 1)).size <;> by_cases h' : b' < (hs (e + 1)).size
    · rw [γlow b h] at hb
      rw [γlow b' h'] at hb'
      exact R1.inj b b' r d d' hl hl' hb hb' (by rw [← same b h]; exact hj) (by rw [← same b' h']; exact hj')
    · exact (mixed b b' r d d' hl hl' hb hb' hj h h').elim
    · exact (mixed b' b r d' d hl' hl hb' hb hj' h' h).elim
    · rw [γhigh b h] at hb
      rw [γhigh b' h'] at hb'
      exact M.inj b b' r d d' hl hl' hb hb' (by rw [Array.getElem?_eq_none (by omega)]; simp) (by rw [Array.getElem?_eq_none (by omega)]; simp)
  · obtain ⟨z, hz⟩ := M.glob x hx
    exact ⟨z, leβ _ _ hz⟩
  · by_cases h : b < (hs (e + 1)).size
    · omega
    · rw [γhigh b h] at hb
      obtain ⟨i, o', q1, q2, q3, q4, q5, q6⟩ := hearly b r d hb h
      exact ⟨i, o', q1, q3, q4, q5, q6⟩
  · have hlt := (Array.getElem?_eq_some_iff.1 hj).1
    have := E.junk b x (by unfold cutB; rw [if_pos hlt]; exact hb) hj
    rw [same b (by omega)]; exact this
  · refine E.keep r hr fun b d hlo hb => ?_
    exact hk b d hlo (cutB_some hb).2
  · by_cases h : b < (hs (e + 1)).size
    · rw [γlow b h] at hx
      rcases E.fresh b r d (by
        rcases Nat.lt_or_ge b (hs e).size with hlt | hge
        · rw [β1old b hlt, hb] at hx; cases hx
        · exact hge) hx with h1 | ⟨b0, d0, hl0, h3, h4⟩
      · exact .inl h1
      · exact .inr ⟨b0, d0, hl0, (cutB_some h3).2, h4⟩
    · rw [γhigh b h, hb] at hx; cases hx

/-- The map alone, with a memory of which nothing is known. -/
def junkH (n : Nat) : AH := Array.replicate n .junk
theorem junkH_get {n b : Nat} (h : b < n) : (junkH n)[b]? = some .junk := by simp [junkH, h]
theorem MInv.blind {hs : Nat → AH} {n e i : Nat} {β : Bij} {w : World} (M : MInv P lo n0 hs n e β w) (hm : ∀ j, j < n → (hs j).size ≤ (hs (j + 1)).size) (hi : i ≤ n) : HRel P lo n0 (cutB β (hs i).size) (junkH (hs i).size) w := by
  have hs0 : (hs 0).size ≤ (hs i).size := mono_sizes hm (Nat.zero_le _) hi
  have hsz : (junkH (hs i).size).size = (hs i).size := by simp [junkH]
  refine ⟨fun b r d hb => ?_, fun b r d o hb ho => ?_, fun b r d hl hb => M.img b r d hl (cutB_some hb).2, fun b r d hl hb => M.low b r d hl (cutB_some hb).2, fun b b' r d d' hl hl' hb hb' hj hj' => ?_, fun x hx => ?_, ?_, M.n0s⟩
  · obtain ⟨h1, h2⟩ := cutB_some hb
    exact ⟨by omega, (M.dom b r d h2).2⟩
  · rw [junkH_get (cutB_some hb).1] at ho; cases ho; trivial
  · exact absurd (junkH_get (cutB_some hb).1) hj
  · obtain ⟨z, hz⟩ := M.glob x hx
    refine ⟨z, ?_⟩
    unfold cutB
    rw [if_pos (by have := M.gl; omega)]; exact hz
  · rw [hsz]; exact Nat.le_trans M.los hs0
/-- One block alone is known. -/
theorem MInv.peek {hs : Nat → AH} {n e i : Nat} {β : Bij} {w : World} (M : MInv P lo n0 hs n e β w) (hm : ∀ j, j < n → (hs j).size ≤ (hs (j + 1)).size) (hi : i ≤ n) {b0 : Nat} {o : AObj} (hb0 : b0 < (hs i).size)
    (ho : ∀ r d, β b0 = some (r, d) → ORel P (cutB β (hs i).size) (lo ≤ b0) o w.heap[r]? d) : HRel P lo n0 (cutB β (hs i).size) ((junkH (hs i).size).setIfInBounds b0 o) w := by
  have hs0 : (hs 0).size ≤ (hs i).size := mono_sizes hm (Nat.zero_le _) hi
  have hsz : ((junkH (hs i).size).setIfInBounds b0 o).size = (hs i).size := by simp [junkH]
  have hne : ∀ b, b < (hs i).size → b ≠ b0 → ((junkH (hs i).size).setIfInBounds b0 o)[b]? = some .junk := fun b h1 h2 => by
    rw [Array.getElem?_setIfInBounds_ne (Ne.symm h2)]; exact junkH_get h1
  refine ⟨fun b r d hb => ?_, fun b r d o' hb ho' => ?_, fun b r d hl hb => M.img b r d hl (cutB_some hb).2, fun b r d hl hb => M.low b r d hl (cutB_some hb).2, fun b b' r d d' hl hl' hb hb' hj hj' => ?_, fun x hx => ?_, ?_, M.n0s⟩
  · obtain ⟨h1, h2⟩ := cutB_some hb
    exact ⟨by omega, (M.dom b r d h2).2⟩
  · obtain ⟨h1, h2⟩ := cutB_some hb
    by_cases hbb : b = b0
    · subst hbb
      rw [Array.getElem?_setIfInBounds_self_of_lt (by simp [junkH]; exact hb0)] at ho'
      cases ho'
      exact ho r d h2
    · rw [hne b h1 hbb] at ho'; cases ho'; trivial
  · have e1 : b = b0 := Classical.byContradiction fun h => hj (hne b (cutB_some hb).1 h)
    have e2 : b' = b0 := Classical.byContradiction fun h => hj' (hne b' (cutB_some hb').1 h)
    rw [e1, e2]
  · obtain ⟨z, hz⟩ := M.glob x hx
    refine ⟨z, ?_⟩
    unfold cutB
    rw [if_pos (by have := M.gl; omega)]; exact hz
  · rw [hsz]; exact Nat.le_trans M.los hs0
end

/-! ### What an operation does to the abstract memory -/
section
variable {lo : Nat} {fr : Fr} {h h1 : AH} {v : Value}
theorem Grow.refl (h : AH) : Grow h h := ⟨Nat.le_refl _, fun _ _ => rfl⟩
theorem Grow.push (h : AH) (o : AObj) : Grow h (h.push o) := ⟨by simp, fun b hb => by rw [Array.getElem?_push, if_neg (by omega)]⟩
theorem aop_still {op : AOp} (hs : op.still = true) (hv : aop lo op fr h = some (v, h1)) : Grow h h1 := by
  cases op <;> simp only [AOp.still] at hs <;> first
    | (cases hs; done)
    | skip
  case load agg a => cases agg <;> simp only [aop] at hv <;> split at hv <;> simp only [Option.map_eq_some_iff, Prod.mk.injEq, reduceCtorEq] at hv <;> (obtain ⟨_, _, _, rfl⟩ := hv; exact .refl _)
  case len s x => cases s <;> simp only [aop] at hv <;> split at hv <;> cases hv <;> exact .refl _
  all_goals simp only [aop] at hv
  all_goals repeat' split at hv
  all_goals first
    | (cases hv; done)
    | (cases hv; first | exact .refl _ | exact .push _ _)
    | (simp only [Option.map_eq_some_iff, Prod.mk.injEq] at hv; obtain ⟨_, _, _, rfl⟩ := hv; first | exact .refl _ | exact .push _ _)
theorem aop_blind {op : AOp} (hs : op.mem = false) (hv : aop lo op fr h = some (v, h1)) (g : AH) : aop lo op fr g = some (v, g) := by
  cases op <;> simp only [AOp.mem, AOp.sens] at hs <;> first
    | (cases hs; done)
    | skip
  case len s x => cases s <;> simp only [aop] at hv ⊢ <;> split at hv <;> cases hv <;> rfl
  all_goals simp only [aop] at hv ⊢
  all_goals repeat' split at hv
  all_goals first
    | (cases hv; done)
    | (cases hv; simp_all; done)
    | (simp only [Option.map_eq_some_iff, Prod.mk.injEq] at hv; obtain ⟨_, e1, e2, rfl⟩ := hv; simp_all; done)
theorem aop_load {agg : Option Nat} {a : Opd} (hv : aop lo (.load agg a) fr h = some (v, h1)) : ∃ b o, a.ev fr = ptr b o ∧ h1 = h ∧ b < h.size ∧ ∀ g : AH, g[b]? = h[b]? → aop lo (.load agg a) fr g = some (v, g) := by
  cases agg <;> simp only [aop] at hv ⊢ <;> split at hv <;> simp only [Option.map_eq_some_iff, Prod.mk.injEq, reduceCtorEq] at hv
  · rename_i b o hp
    obtain ⟨x, h2, rfl, rfl⟩ := hv
    refine ⟨b, o, hp, rfl, ?_, fun g hg => ?_⟩
    · unfold cellAt at h2
      split at h2
      · rename_i c hc; exact (Array.getElem?_eq_some_iff.1 hc).1
      · cases h2
    · have : cellAt g b o = cellAt h b o := by unfold cellAt; rw [hg]
      simp only [this, h2, Option.map_some]
  · rename_i b o hp
    obtain ⟨x, h2, rfl, rfl⟩ := hv
    refine ⟨b, o, hp, rfl, ?_, fun g hg => ?_⟩
    · unfold cellsAt at h2
      split at h2
      · rename_i c hc; exact (Array.getElem?_eq_some_iff.1 hc).1
      · cases h2
    · have : ∀ n, cellsAt g b o n = cellsAt h b o n := fun n => by unfold cellsAt; rw [hg]
      simp only [this, h2, Option.map_some]
end
theorem load_junk {lo : Nat} {fr : Fr} {agg : Option Nat} {a : Opd} {g : AH} {b o : Nat} (hg : g[b]? = some .junk) (ha : a.ev fr = ptr b o) : aop lo (.load agg a) fr g = none := by
  cases agg <;> simp [aop, ha, ptr, cellAt, cellsAt, hg]
/-- Blocks that lay stay as they are, or are given up. -/
def GrowJ (h h1 : AH) : Prop := h.size ≤ h1.size ∧ ∀ b : Nat, b < h.size → h1[b]? = h[b]? ∨ h1[b]? = some .junk
theorem appendA_open {lo : Nat} {h h' : AH} {e b : Nat} {s x w : Value} (hs : openS s = true) (ha : appendA lo h e b s x = some (w, h')) : GrowJ h h' := by
  have hgr : ∀ {g : AH}, Grow h g → GrowJ h g := fun hg => ⟨hg.1, fun b hb => .inl (hg.2 b hb)⟩
  unfold appendA at ha
  split at ha
  · cases ha
  · rename_i n new _
    split at ha
    · split at ha
      · split at ha
        · cases ha; exact hgr (.refl _)
        · split at ha
          · cases ha; exact hgr (.push _ _)
          · cases ha
      · cases ha
    · rename_i b0 o sl sc
      split at ha
      · split at ha
        · cases ha; exact hgr (.refl _)
        · cases ha
      · have hsc : openCap ≤ sc := by simpa [openS] using hs
        rw [if_pos hsc] at ha
        split at ha
        · split at ha
          · cases ha
            refine ⟨by simp, fun q hq => ?_⟩
            rw [Array.getElem?_push, if_neg (by simp; omega)]
            by_cases hqb : b0 = q
            · subst hqb
              right
              rw [Array.getElem?_setIfInBounds_self_of_lt hq]
            · left
              rw [Array.getElem?_setIfInBounds_ne hqb]
          · cases ha
        · cases ha
    · cases ha
end Go.RS

/- Regions that draw their order (5): the text's run, seen from any order. -/
namespace Go.RS
open Go

theorem still_mem {op : AOp} (h : op.still = false) : op.mem = true := by cases op <;> simp_all [AOp.still, AOp.mem, AOp.sens]

structure DC (P : Program) (lo n0 N : Nat) (ops : Array Oper) (frs : Nat → Fr) (hs : Nat → AH) (vs : Nat → Value) : Prop where
  ok : drawOk P N ops = true
  tr : ∀ (j : Nat) (o : Oper), ops[j]? = some o → TrAt P lo n0 (lowDrawn P N ops j o) (frs j) (frs (j + 1)) (hs j) (hs (j + 1)) (vs j)

section
variable {P : Program} {lo n0 N : Nat} {ops : Array Oper} {frs : Nat → Fr} {hs : Nat → AH} {vs : Nat → Value}

def dstOf (ops : Array Oper) (j : Nat) : Option Nat := (ops[j]?).bind (·.dst)
def Wr (hs : Nat → AH) (j : Nat) : Prop := ¬ Grow (hs j) (hs (j + 1))

theorem DC.parts (C : DC P lo n0 N ops frs hs vs) : slotsOk (Region.before ops) ops = true ∧ edgesOk ops = true ∧
    ∀ (j : Nat) (o : Oper), ops[j]? = some o → ∃ op g, lowOper P N ops o = some (op, g) ∧ (lowsOf P N ops).getD j .bad = op ∧ (∀ x ∈ op.opds, ∀ s ∈ opdSlot x, s ∈ readsOf ops o) ∧
      lowDrawn P N ops j o = { dst := o.dst, op, guard := g, seqd := seqOf (Region.before ops) (lowsOf P N ops) ops j, late := lateList (Region.before ops) (lowsOf P N ops) ops j } := by
  have h := C.ok
  unfold drawOk at h
  simp only [Bool.and_eq_true] at h
  refine ⟨h.1.1, h.1.2, fun j o ho => ?_⟩
  have hm := Array.all_eq_true_iff_forall_mem.1 h.2 o (Array.mem_of_getElem? ho)
  cases hx : lowOper P N ops o with
  | none => rw [hx] at hm; cases hm
  | some x =>
    obtain ⟨op, g⟩ := x
    rw [hx] at hm
    simp only at hm
    refine ⟨op, g, rfl, ?_, fun x hx s hs => ?_, by simp only [lowDrawn, hx]⟩
    · rw [Array.getD_eq_getD_getElem?]
      unfold lowsOf
      rw [Array.getElem?_map, ho]
      simp [hx]
    · have := List.all_eq_true.1 hm x hx
      have := List.all_eq_true.1 this s hs
      simpa using this
theorem DC.mono (C : DC P lo n0 N ops frs hs vs) : ∀ j, j < ops.size → (hs j).size ≤ (hs (j + 1)).size := fun j hj => (C.tr j ops[j] (Array.getElem?_eq_getElem hj)).sz

theorem slots_pair (hs : slotsOk (Region.before ops) ops = true) {i j : Nat} (hij : i < j) {x y : Oper} (hx : ops[i]? = some x) (hy : ops[j]? = some y) :
    ordB (Region.before ops) i j = true ∨ ((∀ d, x.dst = some d → d ∉ readsOf ops y ∧ y.dst ≠ some d) ∧ ∀ d, y.dst = some d → d ∉ readsOf ops x) := by
  have hj : j < ops.size := (Array.getElem?_eq_some_iff.1 hy).1
  have h1 := List.all_eq_true.1 hs j (List.mem_range.2 hj)
  have h2 := List.all_eq_true.1 h1 i (List.mem_range.2 hij)
  rw [hx, hy] at h2
  simp only [Bool.or_eq_true, Bool.and_eq_true] at h2
  refine h2.imp id fun ⟨h3, h4⟩ => ⟨fun d hd => ?_, fun d hd => ?_⟩
  · rw [hd] at h3
    simp only [Bool.and_eq_true, Bool.not_eq_true', bne_iff_ne] at h3
    exact ⟨by simpa using h3.1, h3.2⟩
  · rw [hd] at h4
    simpa using h4

theorem fr_same (C : DC P lo n0 N ops frs hs vs) {t i0 i : Nat} (h0 : i0 ≤ i) (hi : i ≤ ops.size) (h : ∀ k, i0 ≤ k → k < i → dstOf ops k ≠ some t) : frs i t = frs i0 t := by
  induction i with
  | zero => have : i0 = 0 := by omega
            subst this; rfl
  | succ i ih =>
    by_cases hc : i0 = i + 1
    · subst hc; rfl
    · have ho : ops[i]? = some ops[i] := Array.getElem?_eq_getElem (by omega)
      obtain ⟨op, g, _, _, _, hd⟩ := C.parts.2.2 i _ ho
      have ht := (C.tr i _ ho).fr
      rw [hd] at ht
      simp only at ht
      have hne := h i (by omega) (by omega)
      rw [ht]
      have : putF (frs i) ops[i].dst (vs i) t = frs i t := by
        unfold dstOf at hne
        rw [ho] at hne
        simp only [Option.bind_some] at hne
        cases hd2 : ops[i].dst with
        | none => rfl
        | some d =>
          simp only [hd2, ne_eq, Option.some.injEq] at hne
          simp only [putF, upd]
          rw [if_neg (fun h => hne h.symm)]
      rw [this]
      exact ih (by omega) (by omega) (fun k h1 h2 => h k h1 (by omega))
theorem fr_last (C : DC P lo n0 N ops frs hs vs) {t i j : Nat} (hj : j < i) (hi : i ≤ ops.size) (hd : dstOf ops j = some t) (h : ∀ k, j < k → k < i → dstOf ops k ≠ some t) : frs i t = vs j := by
  rw [fr_same C (t := t) (show j + 1 ≤ i by omega) hi (fun k h1 h2 => h k (by omega) h2)]
  have ho : ops[j]? = some ops[j] := Array.getElem?_eq_getElem (by omega)
  obtain ⟨op, g, _, _, _, hx⟩ := C.parts.2.2 j _ ho
  have ht := (C.tr j _ ho).fr
  rw [hx] at ht
  simp only at ht
  unfold dstOf at hd
  rw [ho] at hd
  simp only [Option.bind_some] at hd
  rw [ht, hd]
  simp [putF, upd]

theorem lateCand_some {low : Array AOp} {i j : Nat} {a : Opd} (h : lateCand low ops j i = some a) :
    i < j ∧ (∃ n ad x, low.getD j .bad = .store n ad x) ∧ (∃ agg, low.getD i .bad = .load agg a) ∧ ∀ s, a = .t s → ∀ k, k < low.size → i ≤ k → dstOf ops k ≠ some s := by
  unfold lateCand at h
  cases hj : low.getD j .bad <;> rw [hj] at h <;> try (cases h; done)
  cases hi : low.getD i .bad <;> rw [hi] at h <;> try (cases h; done)
  simp only at h
  rw [Option.ite_none_right_eq_some] at h
  obtain ⟨h1, h2⟩ := h
  cases h2
  simp only [Bool.and_eq_true, decide_eq_true_eq] at h1
  refine ⟨h1.1, ⟨_, _, _, rfl⟩, ⟨_, rfl⟩, fun s hs k hk hik => ?_⟩
  subst hs
  have := List.all_eq_true.1 h1.2 k (List.mem_range.2 hk)
  simp only [Bool.or_eq_true, decide_eq_true_eq, bne_iff_ne] at this
  exact this.resolve_left (by omega)

/-- A writer is bound to every other operation on memory, but for loads that come before it in the text. -/
theorem DC.bound (C : DC P lo n0 N ops frs hs vs) {j : Nat} (hj : j < ops.size) (hw : Wr hs j) {k : Nat} (hk : k < ops.size) (hkj : k ≠ j) (hm : ((lowsOf P N ops).getD k .bad).mem = true) :
    ordB (Region.before ops) k j = true ∨ ordB (Region.before ops) j k = true ∨ (k < j ∧ ∃ agg a, (lowsOf P N ops).getD k .bad = .load agg a ∧ a ∈ lateList (Region.before ops) (lowsOf P N ops) ops j ∧
      lateCand (lowsOf P N ops) ops j k = some a) ∨ (j < k ∧ ∃ z, (lowsOf P N ops).getD k .bad = .alloc z) ∨ (j < k ∧ (∃ agg a, (lowsOf P N ops).getD k .bad = .load agg a) ∧ GrowJ (hs j) (hs (j + 1))) ∨
      (k < j ∧ ∃ fl z mm kk, (lowsOf P N ops).getD k .bad = .lookup fl z false mm kk ∧ atomV z = true ∧ mm.ev (frs j) = mm.ev (frs k) ∧ kk.ev (frs j) = kk.ev (frs k) ∧
        lookAtom (hs j) fl (mm.ev (frs k)) (kk.ev (frs k)) = true ∧ aop lo (.mapEntry fl z mm kk) (frs j) (hs j) = some (vs j, hs (j + 1))) := by
  have ho : ops[j]? = some ops[j] := Array.getElem?_eq_getElem hj
  obtain ⟨op, g, _, hop, _, hx⟩ := C.parts.2.2 j _ ho
  have ht := (C.tr j _ ho).st
  rw [hx] at ht
  simp only at ht
  have hseq : seqOf (Region.before ops) (lowsOf P N ops) ops j = true := by
    rcases ht with ⟨_, _, h1⟩ | ⟨_, _, h2, h3⟩
    · exact absurd (by rw [h1]; exact Grow.refl _) hw
    · rcases h3 with h3 | h3 | h3
      · rcases h2 with ⟨f, args, he⟩ | he
        · rw [he] at h3; cases h3
        · exact absurd (aop_still h3 he) hw
      · exact absurd h3 hw
      · exact h3.1
  have hsz : (lowsOf P N ops).size = ops.size := by simp [lowsOf]
  have h1 := List.all_eq_true.1 hseq k (List.mem_range.2 (by omega))
  rw [Bool.or_eq_true] at h1
  by_cases hlk : (unbound (Region.before ops) (lowsOf P N ops) j k = true ∧ lateLook (lowsOf P N ops) ops j k = true)
  · obtain ⟨hu, hlk⟩ := hlk
    have hl0 := hlk
    unfold lateLook at hlk
    split at hlk
    · rename_i fl z mm kk fl' z' ok mm' kk' hj2 hk2
      simp only [Bool.and_eq_true, decide_eq_true_eq, Bool.not_eq_true'] at hlk
      obtain ⟨⟨⟨⟨⟨⟨⟨g1, g2⟩, g3⟩, g4⟩, g5⟩, g6⟩, g7⟩, g8⟩ := hlk
      subst g2
      have efl : fl = fl' := by
        cases fl <;> cases fl' <;> simp [ksEq] at g3 <;> rw [g3]
      have ez : z = z' ∧ atomV z = true := by
        cases z <;> cases z' <;> simp [zEq] at g4
        · exact ⟨by rw [g4], rfl⟩
        · exact ⟨by rw [g4.1, g4.2], rfl⟩
      have eo : ∀ {a b : Opd}, opdEq a b = true → a = b := by
        intro a b hab
        cases a <;> cases b <;> simp [opdEq] at hab
        rw [hab]
      have em := eo g5
      have ek := eo g6
      subst efl em ek
      obtain ⟨ez, hz⟩ := ez
      subst ez
      have kept : ∀ x, keptFrom ops k x = true → x.ev (frs j) = x.ev (frs k) := by
        intro x hx
        cases x with
        | c v => rfl
        | t s =>
          unfold keptFrom at hx
          refine fr_same C (t := s) (by omega) (by omega) fun q q1 q2 => ?_
          have := List.all_eq_true.1 hx q (List.mem_range.2 (by omega))
          simp only [Bool.or_eq_true, decide_eq_true_eq, bne_iff_ne] at this
          exact this.resolve_left (by omega)
      refine .inr (.inr (.inr (.inr (.inr ⟨g1, fl, z, mm, kk, hk2, hz, kept _ g7, kept _ g8, ?_⟩))))
      rw [hop] at hj2
      subst hj2
      rcases ht with ⟨_, _, h3⟩ | ⟨_, _, h3, h4⟩
      · exact absurd (by rw [h3]; exact Grow.refl _) hw
      · have he : aop lo (.mapEntry fl z mm kk) (frs j) (hs j) = some (vs j, hs (j + 1)) := by
          rcases h3 with ⟨f, args, he⟩ | he
          · cases he
          · exact he
        refine ⟨?_, he⟩
        rcases h4 with h4 | h4 | h4
        · cases h4
        · exact absurd h4 hw
        · have h5 := h4.2
          unfold lateOk at h5
          simp only at h5
          rcases h5 with h5 | h5
          · exfalso
            unfold lateList at h5
            rw [if_pos (List.any_eq_true.2 ⟨k, List.mem_range.2 (by omega), by rw [hu, hl0]; simp⟩)] at h5
            simp at h5
          · rw [kept _ g7, kept _ g8] at h5
            exact h5
    · cases hlk
  have h1 := h1
  by_cases hu0 : unbound (Region.before ops) (lowsOf P N ops) j k = true
  case neg =>
    simp only [unbound, hm, Bool.not_true, Bool.or_false, Bool.not_eq_true', Bool.not_eq_false, Bool.or_eq_true, beq_iff_eq] at hu0
    rcases hu0 with (hu | hu) | hu
    · exact absurd hu hkj
    · exact .inl hu
    · exact .inr (.inl hu)
  have h1 := h1.resolve_right (fun h => hlk ⟨hu0, h⟩)
  simp only [Bool.or_eq_true, Bool.not_eq_true'] at h1
  by_cases hu : unbound (Region.before ops) (lowsOf P N ops) j k = true
  · rw [hu] at h1
    rcases h1.symm with h1 | h1
    · have hearly := h1
      rw [Bool.and_eq_true, decide_eq_true_eq] at h1
      obtain ⟨hjk, h2⟩ := h1
      unfold earlyL at h2
      split at h2
      · rename_i es bs s x agg a hj2 hk2
        refine .inr (.inr (.inr (.inr (.inl ⟨hjk, ⟨_, _, hk2⟩, ?_⟩))))
        rw [hop] at hj2
        subst hj2
        rcases ht with ⟨_, _, h3⟩ | ⟨_, _, h3, h4⟩
        · exact absurd (by rw [h3]; exact Grow.refl _) hw
        · rcases h3 with ⟨f, args, he⟩ | he
          · cases he
          rcases h4 with h4 | h4 | h4
          · cases h4
          · exact absurd h4 hw
          · have h5 := h4.2
            unfold lateOk at h5
            simp only at h5
            rcases h5 with h5 | h5
            · exfalso
              unfold lateList at h5
              rw [if_pos (List.any_eq_true.2 ⟨k, List.mem_range.2 (by omega), by rw [hu, hearly]; simp⟩)] at h5
              simp at h5
            · simp only [aop] at he
              exact appendA_open h5 he
      · cases h2
    rcases h1.symm with h1 | h1
    · rw [Bool.and_eq_true, decide_eq_true_eq] at h1
      refine .inr (.inr (.inr (.inl ⟨h1.1, ?_⟩)))
      have h2 := h1.2
      cases hq : (lowsOf P N ops).getD k .bad <;> rw [hq] at h2 <;> first | (cases h2; done) | exact ⟨_, rfl⟩
    have h1 := h1.resolve_left (by simp)
    obtain ⟨a, ha⟩ := Option.isSome_iff_exists.1 h1
    refine .inr (.inr (.inl ?_))
    have hmem : a ∈ lateList (Region.before ops) (lowsOf P N ops) ops j := by
      unfold lateList
      rw [List.mem_append]
      left
      rw [List.mem_filterMap]
      exact ⟨k, List.mem_range.2 (by omega), by rw [if_pos hu]; exact ha⟩
    obtain ⟨h2, _, ⟨agg, h4⟩, _⟩ := lateCand_some ha
    exact ⟨h2, agg, a, h4, hmem, ha⟩
  · simp only [unbound, hm, Bool.not_true, Bool.or_false, Bool.not_eq_true', Bool.not_eq_false, Bool.or_eq_true, beq_iff_eq] at hu
    rcases hu with (hu | hu) | hu
    · exact absurd hu hkj
    · exact .inl hu
    · exact .inr (.inl hu)

theorem DC.wr_mem (C : DC P lo n0 N ops frs hs vs) {j : Nat} (hj : j < ops.size) (hw : Wr hs j) : ((lowsOf P N ops).getD j .bad).mem = true ∧ ((lowsOf P N ops).getD j .bad).still = false := by
  have ho : ops[j]? = some ops[j] := Array.getElem?_eq_getElem hj
  obtain ⟨op, g, _, hop, _, hx⟩ := C.parts.2.2 j _ ho
  have ht := (C.tr j _ ho).st
  rw [hx] at ht
  simp only at ht
  rw [hop]
  have : op.still = false := by
    rcases ht with ⟨_, _, h1⟩ | ⟨_, _, h2, h3⟩
    · exact absurd (by rw [h1]; exact Grow.refl _) hw
    · cases hst : op.still with
      | false => rfl
      | true =>
        rcases h2 with ⟨f, args, he⟩ | he
        · rw [he] at hst; cases hst
        · exact absurd (aop_still hst he) hw
  exact ⟨still_mem this, this⟩

theorem store_other {n : Nat} {a x : Opd} {fr : Fr} {h h1 : AH} {v : Value} {p : Addr} (hv : aop lo (.store n a x) fr h = some (v, h1)) (hp : a.ev fr = .pointer (some p)) {b : Nat} (hb : b ≠ p.block) : h1[b]? = h[b]? := by
  simp only [aop] at hv
  split at hv
  · rename_i b0 o ha
    rw [hp] at ha
    cases ha
    split at hv
    · simp only [Option.map_eq_some_iff, Prod.mk.injEq] at hv
      obtain ⟨h', h2, _, rfl⟩ := hv
      unfold setCells at h2
      split at h2
      · split at h2
        · cases h2
          exact Array.getElem?_setIfInBounds_ne (Ne.symm hb)
        · cases h2
      · cases h2
    · cases hv
  · cases hv

/-- The block of a load that comes before a writer in the text, and may come behind it in a run. -/
theorem DC.late (C : DC P lo n0 N ops frs hs vs) {i k : Nat} (hik : i < k) (hk : k < ops.size) (hw : Wr hs k) {agg : Option Nat} {a : Opd} (hl : (lowsOf P N ops).getD i .bad = .load agg a)
    (hm : a ∈ lateList (Region.before ops) (lowsOf P N ops) ops k) (hc : lateCand (lowsOf P N ops) ops k i = some a) {b o : Nat} (ha : a.ev (frs i) = ptr b o) : (hs (k + 1))[b]? = (hs k)[b]? := by
  have ho : ops[k]? = some ops[k] := Array.getElem?_eq_getElem hk
  obtain ⟨op, g, _, hop, _, hx⟩ := C.parts.2.2 k _ ho
  have ht := (C.tr k _ ho).st
  rw [hx] at ht
  simp only at ht
  have hev : a.ev (frs k) = a.ev (frs i) := by
    obtain ⟨_, _, _, h3⟩ := lateCand_some hc
    cases a with
    | c v => rfl
    | t s =>
      have hsz : (lowsOf P N ops).size = ops.size := by simp [lowsOf]
      exact fr_same C (by omega) (by omega) fun k' h4 h5 => h3 s rfl k' (by omega) h4
  rcases ht with ⟨_, _, h1⟩ | ⟨_, _, h2, h3⟩
  · exact absurd (by rw [h1]; exact Grow.refl _) hw
  · rcases h3 with h3 | h3 | h3
    · exact absurd h3 (by rw [← hop, (C.wr_mem hk hw).2]; simp)
    · exact absurd h3 hw
    · have h4 := h3.2
      unfold lateOk at h4
      simp only at h4
      obtain ⟨_, ⟨n, ad, x, hst⟩, _, _⟩ := lateCand_some hc
      rw [hop] at hst
      subst hst
      simp only at h4
      cases hp : ad.ev (frs k) <;> rw [hp] at h4 <;> try (exact h4.elim)
      rename_i q
      cases q <;> try (exact h4.elim)
      rename_i p
      have h5 := h4 a hm
      rw [hev, ha] at h5
      simp only [ptr] at h5
      rcases h2 with ⟨f, args, he⟩ | he
      · cases he
      · exact store_other he hp h5
end
end Go.RS

/- Regions that draw their order (6): whatever order is drawn, the text's result. -/
namespace Go.RS
open Go

section
variable {P : Program} {lo n0 N : Nat} {ops : Array Oper} {frs : Nat → Fr} {hs : Nat → AH} {vs : Nat → Value} {β0 : Bij} {w0 : World} {df : List Deferred} {ro : Option Nat}

def SlotI (ops : Array Oper) (frs : Nat → Fr) (hs : Nat → AH) (vs : Nat → Value) (l : Array Bool) (β : Bij) (a : Act) (t : Nat) : Prop :=
  (VRel (cutB β (hs 0).size) (frs 0 t) (a.tmps.getD t undef) ∧ ∀ j, j < ops.size → Listed l j → dstOf ops j ≠ some t) ∨
  ∃ j, j < ops.size ∧ Listed l j ∧ dstOf ops j = some t ∧ (∀ k, k < ops.size → Listed l k → dstOf ops k = some t → k ≤ j) ∧ VRel (cutB β (hs (j + 1)).size) (vs j) (a.tmps.getD t undef)

structure RInv (P : Program) (lo n0 N : Nat) (ops : Array Oper) (frs : Nat → Fr) (hs : Nat → AH) (vs : Nat → Value) (β0 : Bij) (w0 : World) (df : List Deferred) (ro : Option Nat)
    (l : Array Bool) (e : Nat) (β : Bij) (a : Act) (w : World) : Prop where
  M : MInv P lo n0 hs ops.size e β w
  lsz : l.size = ops.size
  cl : ClosedL ops l
  st1 : ∀ j, j < e → Wr hs j → Listed l j
  st2 : e < ops.size → Wr hs e ∧ ¬ Listed l e
  dl : ∀ b x, β b = some x → b < (hs 0).size ∨ ∃ j, j < ops.size ∧ Listed l j ∧ (hs j).size ≤ b ∧ b < (hs (j + 1)).size
  d0 : ∀ b, b < (hs 0).size → β b = β0 b
  sz : a.tmps.size = N
  fs : ∀ t, SlotI ops frs hs vs l β a t
  df : a.defers = df
  la : LoopAt ro w
  ex : ExtW lo β0 (hs 0) w0 β (hs e) w

theorem put_getD (a : Act) (d : Option Nat) (v : Value) (t : Nat) : (a.put d v).tmps.getD t undef = if d = some t ∧ t < a.tmps.size then v else a.tmps.getD t undef := by
  cases d with
  | none => simp [Act.put]
  | some d =>
    simp only [Act.put, Array.getD_eq_getD_getElem?]
    by_cases h : d = t
    · subst h
      by_cases h2 : d < a.tmps.size
      · simp [h2]
      · rw [Array.setIfInBounds_eq_of_size_le (by omega)]
        simp [h2]
    · rw [Array.getElem?_setIfInBounds_ne h]
      simp [h]

theorem stage_next (p : Nat → Prop) (n : Nat) : ∀ k s, n - s = k → s ≤ n → (∀ j, j < s → ¬ p j) → ∃ e, s ≤ e ∧ e ≤ n ∧ (∀ j, j < e → ¬ p j) ∧ (e < n → p e) := by
  intro k
  induction k with
  | zero => intro s h1 h2 h3; exact ⟨s, Nat.le_refl _, h2, h3, fun h => by omega⟩
  | succ k ih =>
    intro s h1 h2 h3
    by_cases hp : p s
    · exact ⟨s, Nat.le_refl _, h2, h3, fun _ => hp⟩
    · obtain ⟨e, e1, e2, e3, e4⟩ := ih (s + 1) (by omega) (by omega) (fun j hj => by
        by_cases hjs : j = s
        · subst hjs; exact hp
        · exact h3 j (by omega))
      exact ⟨e, by omega, e2, e3, e4⟩

variable {l : Array Bool} {e : Nat} {β : Bij} {a : Act} {w : World}

theorem RInv.later (C : DC P lo n0 N ops frs hs vs) (I : RInv P lo n0 N ops frs hs vs β0 w0 df ro l e β a w) {j : Nat} (hj : j < ops.size) (hw : Wr hs j) (hl : Listed l j) : j < e := by
  by_cases h : j < e
  · exact h
  · exfalso
    have hE := C.parts.2.1
    obtain ⟨hwe, hle⟩ := I.st2 (by omega)
    have hne : e ≠ j := by rintro rfl; exact hle hl
    rcases C.bound hj hw (show e < ops.size by omega) hne (C.wr_mem (by omega) hwe).1 with h1 | h1 | ⟨_, agg, a', h2, _⟩ | ⟨h1, _⟩ | ⟨h1, _⟩ | ⟨_, fl, z, mm, kk, h2, _⟩
    · exact hle (I.cl j hl e h1)
    · have := ordB_lt hE e h1; omega
    · have := (C.wr_mem (show e < ops.size by omega) hwe).2
      rw [h2] at this; cases this
    · omega
    · omega
    · have := (C.wr_mem (show e < ops.size by omega) hwe).2
      rw [h2] at this; cases this

theorem RInv.read (C : DC P lo n0 N ops frs hs vs) (I : RInv P lo n0 N ops frs hs vs β0 w0 df ro l e β a w) {i : Nat} {o : Oper} (ho : ops[i]? = some o) (hn : ¬ Listed l i)
    (hc : ∀ k, ordB (Region.before ops) k i = true → Listed l k) {t : Nat} (ht : t ∈ readsOf ops o) : VRel (cutB β (hs i).size) (frs i t) (a.tmps.getD t undef) := by
  have hi : i < ops.size := (Array.getElem?_eq_some_iff.1 ho).1
  have hS := C.parts.1
  have hlt : ∀ j, j < ops.size → Listed l j → dstOf ops j = some t → j < i := by
    intro j hj hl hd
    by_cases h : j < i
    · exact h
    · exfalso
      have hne : j ≠ i := by rintro rfl; exact hn hl
      have hoj : ops[j]? = some ops[j] := Array.getElem?_eq_getElem hj
      rcases slots_pair hS (show i < j by omega) ho hoj with h1 | ⟨_, h2⟩
      · exact hn (I.cl j hl i h1)
      · refine h2 t ?_ ht
        simpa [dstOf, hoj] using hd
  have hall : ∀ j, j < i → dstOf ops j = some t → Listed l j := by
    intro j hj hd
    have hoj : ops[j]? = some ops[j] := Array.getElem?_eq_getElem (by omega)
    rcases slots_pair hS hj hoj ho with h1 | ⟨h2, _⟩
    · exact hc j h1
    · exact absurd ht (h2 t (by simpa [dstOf, hoj] using hd)).1
  rcases I.fs t with ⟨h1, h2⟩ | ⟨j, h1, h2, h3, h4, h5⟩
  · rw [fr_same C (t := t) (Nat.zero_le i) (by omega) (fun k _ hk hd => h2 k (by omega) (hall k hk hd) hd)]
    exact h1.mono (cutB_le_cutB β (mono_sizes C.mono (Nat.zero_le i) (by omega)))
  · have hji := hlt j h1 h2 h3
    rw [fr_last C hji (by omega) h3 (fun k hk1 hk2 hd => by have := h4 k (by omega) (hall k hk2 hd) hd; omega)]
    exact h5.mono (cutB_le_cutB β (mono_sizes C.mono (show j + 1 ≤ i by omega) (by omega)))

theorem RInv.step (C : DC P lo n0 N ops frs hs vs) (I : RInv P lo n0 N ops frs hs vs β0 w0 df ro l e β a w) {i : Nat} {o : Oper} (ho : ops[i]? = some o) (hn : ¬ Listed l i)
    (hc : ∀ k, ordB (Region.before ops) k i = true → Listed l k) {γ : Bij} {e' : Nat} {w1 : World} {v' : Value} (hγ : ∀ b, ¬ ((hs i).size ≤ b ∧ b < (hs (i + 1)).size) → γ b = β b)
    (M' : MInv P lo n0 hs ops.size e' γ w1) (ex : ExtW lo β (hs e) w γ (hs e') w1) (hv : VRel (cutB γ (hs (i + 1)).size) (vs i) v')
    (s1 : ∀ j, j < e' → Wr hs j → Listed (l.setIfInBounds i true) j) (s2 : e' < ops.size → Wr hs e' ∧ ¬ Listed (l.setIfInBounds i true) e') :
    RInv P lo n0 N ops frs hs vs β0 w0 df ro (l.setIfInBounds i true) e' γ (a.put o.dst v') w1 := by
  have hi : i < ops.size := (Array.getElem?_eq_some_iff.1 ho).1
  have hil : i < l.size := by rw [I.lsz]; exact hi
  have hS := C.parts.1
  obtain ⟨op, g, hlo, _, _, _⟩ := C.parts.2.2 i o ho
  have hdN := (lowOper_some hlo).2.2
  have hdst : dstOf ops i = o.dst := by simp [dstOf, ho]
  refine ⟨M', by simp [I.lsz], fun j hj k hk => ?_, s1, s2, fun b x hb => ?_, fun b hb => ?_, ?_, fun t => ?_, ?_, fun r hr => ?_, I.ex.trans ex⟩
  · rw [listed_set hil] at hj ⊢
    rcases hj with rfl | hj
    · exact .inr (hc k hk)
    · exact .inr (I.cl j hj k hk)
  · by_cases hn : (hs i).size ≤ b ∧ b < (hs (i + 1)).size
    · exact .inr ⟨i, hi, (listed_set hil).2 (.inl rfl), hn.1, hn.2⟩
    · rw [hγ b hn] at hb
      rcases I.dl b x hb with h1 | ⟨j, h1, h2, h3, h4⟩
      · exact .inl h1
      · exact .inr ⟨j, h1, (listed_set hil).2 (.inr h2), h3, h4⟩
  · rw [hγ b (by have := mono_sizes C.mono (Nat.zero_le i) (by omega); omega)]
    exact I.d0 b hb
  · rw [← I.sz]; cases o.dst <;> simp [Act.put]
  · by_cases hd : o.dst = some t
    · right
      have htN : t < a.tmps.size := by
        rw [hd] at hdN
        rw [I.sz]; simpa using hdN
      refine ⟨i, hi, (listed_set hil).2 (.inl rfl), by rw [hdst]; exact hd, fun k hk hl hdk => ?_, by rw [put_getD, if_pos ⟨hd, htN⟩]; exact hv⟩
      rcases (listed_set hil).1 hl with rfl | hl
      · exact Nat.le_refl _
      · by_cases hki : k ≤ i
        · exact hki
        · exfalso
          have hok : ops[k]? = some ops[k] := Array.getElem?_eq_getElem hk
          rcases slots_pair hS (show i < k by omega) ho hok with h1 | ⟨h2, _⟩
          · exact hn (I.cl k hl i h1)
          · exact (h2 t hd).2 (by simpa [dstOf, hok] using hdk)
    · have hold : (a.put o.dst v').tmps.getD t undef = a.tmps.getD t undef := by rw [put_getD, if_neg (fun h => hd h.1)]
      rcases I.fs t with ⟨h1, h2⟩ | ⟨j, h1, h2, h3, h4, h5⟩
      · left
        refine ⟨by rw [hold]; exact h1.mono (cutB_mono ex.le _), fun j hj hl hdj => ?_⟩
        rcases (listed_set hil).1 hl with rfl | hl
        · rw [hdst] at hdj; exact hd hdj
        · exact h2 j hj hl hdj
      · right
        refine ⟨j, h1, (listed_set hil).2 (.inr h2), h3, fun k hk hl hdk => ?_, by rw [hold]; exact h5.mono (cutB_mono ex.le _)⟩
        rcases (listed_set hil).1 hl with rfl | hl
        · rw [hdst] at hdk; exact absurd hdk hd
        · exact h4 k hk hl hdk
  · rw [put_defers]; exact I.df
  · obtain ⟨L, hL⟩ := I.la r hr
    exact ex.lps r L hL

theorem grow_of_not_wr {j : Nat} (h : ¬ Wr hs j) : Grow (hs j) (hs (j + 1)) := Classical.byContradiction h

theorem atom_rel {β δ : Bij} {u v' : Value} (h : VRel β u v') (ha : atomV u = true) : VRel δ u v' := by
  cases h <;> first | exact .bool _ | exact .int _ _ | cases ha
theorem findK_snoc {fl : KS} {k z : Value} {c : Nat} (hk : keyEq fl k k = some true) : ∀ (es : List (Value × Value × Nat)) (i : Nat), findK fl k es i = some none → findK fl k (es ++ [(k, z, c)]) i = some (some (i + es.length, z))
  | [], i, _ => by simp [findK, hk]
  | e :: es, i, h => by
    rw [List.cons_append, findK]
    rw [findK] at h
    split at h
    · cases h
    · rename_i h2
      show findK fl k (es ++ [(k, z, c)]) (i + 1) = _
      rw [findK_snoc hk es (i + 1) h]
      simp only [List.length_cons]
      rw [show i + 1 + es.length = i + (es.length + 1) by omega]
    · cases h
theorem findK_mod {fl : KS} {k : Value} (hk : keyEq fl k k = some true) {v : Value} : ∀ (es : List (Value × Value × Nat)) (i j : Nat), findK fl k es i = some (some (j, v)) → i ≤ j ∧ findK fl k (es.modify (j - i) fun e => (k, e.2)) i = some (some (j, v))
  | [], i, j, h => by cases h
  | e :: es, i, j, h => by
    rw [findK] at h
    split at h
    · rename_i h2
      cases h
      refine ⟨Nat.le_refl _, ?_⟩
      rw [Nat.sub_self, List.modify_zero_cons, findK]
      simp only [hk]
    · rename_i h2
      obtain ⟨g1, g2⟩ := findK_mod hk es (i + 1) j h
      refine ⟨by omega, ?_⟩
      rw [show j - i = (j - (i + 1)) + 1 by omega, List.modify_succ_cons, findK, h2]
      exact g2
    · cases h
/-- A look at a key says the same behind entries that are made for it. -/
theorem look_keeps {fl : KS} {z : Value} {mm kk : Opd} {i e : Nat} (hv : aop lo (.lookup fl z false mm kk) (frs i) (hs i) = some (vs i, hs (i + 1)))
    (hstep : ∀ k, i ≤ k → k < e → Grow (hs k) (hs (k + 1)) ∨ (mm.ev (frs k) = mm.ev (frs i) ∧ kk.ev (frs k) = kk.ev (frs i) ∧ aop lo (.mapEntry fl z mm kk) (frs k) (hs k) = some (vs k, hs (k + 1))))
    {k0 : Nat} (h1 : i ≤ k0) (h2 : k0 < e) (hz : atomV z = true) (ha : lookAtom (hs k0) fl (mm.ev (frs i)) (kk.ev (frs i)) = true) :
    aop lo (.lookup fl z false mm kk) (frs i) (hs e) = some (vs i, hs e) ∧ atomV (vs i) = true := by
  have key : ∀ k, i ≤ k → k ≤ e → ∃ es f, mapEs (hs k) (mm.ev (frs i)) = some es ∧ keyOk fl (kk.ev (frs i)) = true ∧ findK fl (kk.ev (frs i)) es 0 = some f ∧ lookRes false z f = vs i := by
    intro k hk
    induction k with
    | zero =>
      intro _
      obtain rfl : i = 0 := by omega
      simp only [aop] at hv
      split at hv
      · cases hv
      · rename_i es hes
        split at hv
        · cases hv
        · rename_i hok
          simp only [Option.map_eq_some_iff, Prod.mk.injEq] at hv
          obtain ⟨f, hf, hvi, _⟩ := hv
          exact ⟨es, f, hes, by simpa using hok, hf, hvi⟩
    | succ k ih =>
      intro hke
      by_cases hki : i = k + 1
      · subst hki
        simp only [aop] at hv
        split at hv
        · cases hv
        · rename_i es hes
          split at hv
          · cases hv
          · rename_i hok
            simp only [Option.map_eq_some_iff, Prod.mk.injEq] at hv
            obtain ⟨f, hf, hvi, _⟩ := hv
            exact ⟨es, f, hes, by simpa using hok, hf, hvi⟩
      · obtain ⟨es, f, g1, g2, g3, g4⟩ := ih (by omega) (by omega)
        rcases hstep k (by omega) (by omega) with hg | ⟨e1, e2, hm⟩
        · refine ⟨es, f, ?_, g2, g3, g4⟩
          unfold mapEs at g1 ⊢
          split at g1
          · exact g1
          · rename_i r hr
            split at g1
            · rename_i es0 cl hh
              have hlt := (Array.getElem?_eq_some_iff.1 hh).1
              simp only [hg.2 r hlt, hh]; exact g1
            · cases g1
          · cases g1
        · simp only [aop, e1, e2] at hm
          split at hm
          · rename_i r hr
            split at hm
            · rename_i hc
              split at hm
              · rename_i es1 cl hh
                simp only [Option.map_eq_some_iff] at hm
                obtain ⟨f1, hf1, hm⟩ := hm
                have hes : es = es1 := by
                  unfold mapEs at g1
                  rw [hr] at g1
                  simp only [hh, Option.some.injEq] at g1
                  exact g1.symm
                subst hes
                rw [g3] at hf1
                cases hf1
                have hlt := (Array.getElem?_eq_some_iff.1 hh).1
                have hkk : keyEq fl (kk.ev (frs i)) (kk.ev (frs i)) = some true := by simpa [keyOk] using g2
                cases f with
                | none =>
                  simp only [entMap, Prod.mk.injEq] at hm
                  refine ⟨es ++ [(kk.ev (frs i), z, cl)], some (0 + es.length, z), ?_, g2, findK_snoc hkk es 0 g3, ?_⟩
                  · unfold mapEs
                    rw [hr, ← hm.2]
                    simp only [Array.getElem?_setIfInBounds_self_of_lt hlt]
                  · rw [← g4]; rfl
                | some x =>
                  obtain ⟨j, v0⟩ := x
                  simp only [entMap, Prod.mk.injEq] at hm
                  obtain ⟨_, q⟩ := findK_mod hkk es 0 j g3
                  refine ⟨es.modify (j - 0) fun e => (kk.ev (frs i), e.2), some (j, v0), ?_, g2, q, g4⟩
                  unfold mapEs
                  rw [hr, ← hm.2]
                  simp only [Array.getElem?_setIfInBounds_self_of_lt hlt, Nat.sub_zero]
              · cases hm
            · cases hm
          · cases hm
  obtain ⟨es, f, g1, g2, g3, g4⟩ := key e (by omega) (Nat.le_refl _)
  refine ⟨?_, ?_⟩
  · simp only [aop, g1]
    rw [if_neg (by rw [g2]; simp), g3]
    simp only [Option.map_some, g4]
  · obtain ⟨es', f', k1, k2, k3, k4⟩ := key k0 h1 (by omega)
    unfold lookAtom at ha
    rw [k1] at ha
    simp only [k3] at ha
    cases f' with
    | none => rw [← k4]; exact hz
    | some x => rw [← k4]; simpa [lookRes] using ha

/-- **One operation, taken when it is ready.** -/
theorem RInv.take (C : DC P lo n0 N ops frs hs vs) (I : RInv P lo n0 N ops frs hs vs β0 w0 df ro l e β a w) {i : Nat} {o : Oper} (ho : ops[i]? = some o) (hn : ¬ Listed l i)
    (hc : ∀ k, ordB (Region.before ops) k i = true → Listed l k) {Q : Exit → Act → World → Prop} {K : Act → World → Prop}
    (hK : ∀ e' γ a1 w1, RInv P lo n0 N ops frs hs vs β0 w0 df ro (l.setIfInBounds i true) e' γ a1 w1 → K a1 w1) : wpOpIn (FW ro) 0 P ops Q i K a w := by
  have hi : i < ops.size := (Array.getElem?_eq_some_iff.1 ho).1
  have hil : i < l.size := by rw [I.lsz]; exact hi
  have hE := C.parts.2.1
  have hm := C.mono
  obtain ⟨op, g, hlo, hop, hrd, hx⟩ := C.parts.2.2 i o ho
  obtain ⟨l1, l2, l3⟩ := lowOper_some hlo
  have hT := (C.tr i o ho).st
  rw [hx] at hT
  simp only at hT
  have hwt : Region.wanted o (yielded ops a.tmps) = wantedA g (frs i) := wanted_rel l2 fun s want hg => by
    refine (I.read C ho hn hc ?_).mono (cutB_le β _)
    unfold readsOf
    rw [List.mem_append]
    right
    unfold guardSlot at l2
    rw [hg] at l2
    cases hog : o.guard with
    | none => rw [hog] at l2; cases l2
    | some jw =>
      obtain ⟨j, want'⟩ := jw
      rw [hog] at l2
      simp only [Option.map_eq_some_iff, Option.some.injEq, Prod.mk.injEq] at l2
      obtain ⟨d, hd, rfl, rfl⟩ := l2
      simp [hd]
  have s1same : ∀ j, j < e → Wr hs j → Listed (l.setIfInBounds i true) j := fun j hj hw => (listed_set hil).2 (.inr (I.st1 j hj hw))
  have s2same : ¬ Wr hs i → e < ops.size → Wr hs e ∧ ¬ Listed (l.setIfInBounds i true) e := fun hnw he => by
    obtain ⟨h1, h2⟩ := I.st2 he
    refine ⟨h1, fun h3 => ?_⟩
    rcases (listed_set hil).1 h3 with rfl | h3
    · exact hnw h1
    · exact h2 h3
  have hfree : ∀ b : Nat, (hs i).size ≤ b → b < (hs (i + 1)).size → β b = none := fun b h1 h2 => by
    cases hb : β b with
    | none => rfl
    | some x =>
      exfalso
      rcases I.dl b x hb with h3 | ⟨j, h3, h4, h5, h6⟩
      · have := mono_sizes hm (Nat.zero_le i) (by omega); omega
      · have hne : j ≠ i := by rintro rfl; exact hn h4
        rcases Nat.lt_or_gt_of_ne hne with h7 | h7
        · have := mono_sizes hm (show j + 1 ≤ i by omega) (by omega); omega
        · have := mono_sizes hm (show i + 1 ≤ j by omega) (by omega); omega
  unfold wpOpIn
  simp only [ho]
  rw [hwt]
  rcases hT with ⟨hw, hvu, hh⟩ | ⟨hw, hS, hopc, hkind⟩
  · -- not wanted
    rw [hw]
    simp only [Bool.false_eq_true, if_false]
    refine ⟨fun f _ => FW_fn ro f, ?_⟩
    have hnw : ¬ Wr hs i := fun h => h (by rw [hh]; exact .refl _)
    exact hK e β _ w (I.step C ho hn hc (fun b _ => rfl) I.M .refl (by rw [hvu]; exact .undef _) s1same (s2same hnw))
  · rw [hw]
    simp only [if_true]
    -- the frame of the operands alone
    let a' : Act := { a with tmps := (Array.range N).map fun t => if t ∈ readsOf ops o then a.tmps.getD t undef else undef }
    let fr' : Fr := fun t => if t ∈ readsOf ops o then frs i t else undef
    have hsz' : a'.tmps.size = a.tmps.size := by simp [a', I.sz]
    have hget : ∀ t, a'.tmps.getD t undef = if t ∈ readsOf ops o then a.tmps.getD t undef else undef := by
      intro t
      rw [Array.getD_eq_getD_getElem?]
      simp only [a', Array.getElem?_map, Array.getElem?_range]
      by_cases ht : t < N
      · simp [ht]
      · rw [Array.getD_eq_getD_getElem?, Array.getElem?_eq_none (by rw [I.sz]; omega)]
        simp [ht]
    have hopnd : ∀ x ∈ o.op.operands, a'.eval x = a.eval x := by
      intro x hx
      cases x with
      | tmp t =>
        show a'.tmps.getD t undef = a.tmps.getD t undef
        rw [hget, if_pos]
        unfold readsOf
        rw [List.mem_append]
        left
        rw [List.mem_flatMap]
        exact ⟨.tmp t, by simpa using hx, by simp [opdSlots]⟩
      | _ => rfl
    have hF : ∀ {δ : Bij}, BLe (cutB β (hs i).size) δ → FRel δ fr' a'.tmps := fun hl t => by
      rw [hget]
      by_cases ht : t ∈ readsOf ops o
      · simp only [fr', if_pos ht]
        exact (I.read C ho hn hc ht).mono hl
      · simp only [fr', if_neg ht]
        exact .undef _
    have hagree : ∀ x ∈ op.opds, x.ev fr' = x.ev (frs i) := by
      intro x hx
      cases x with
      | c v => rfl
      | t s =>
        show fr' s = frs i s
        have := hrd _ hx s (by simp [opdSlot])
        simp only [fr', if_pos this]
    refine wpIn_congr l1 hsz' hopnd ?_
    have run : ∀ {gh gh' : AH}, StepSim P lo n0 op (frs i) gh (vs i) gh' → HRel P lo n0 (cutB β (hs i).size) gh w →
        (∀ β1 w1 v', VRel β1 (vs i) v' → HRel P lo n0 β1 gh' w1 → Ext lo (cutB β (hs i).size) gh w β1 gh' w1 → K (a.put o.dst v') w1) →
        o.wpIn (FW ro) 0 P a' w (fun a1 w1 => ∃ v, a1 = a'.put o.dst v ∧ K (a.put o.dst v) w1) (fun _ _ _ => False) := by
      intro gh gh' hs1 hR hn1
      exact hs1 o l1 ro _ w a' fr' hR hagree (hF (.refl _)) I.la _ _ fun β1 w1 v' h1 h2 h3 => ⟨v', rfl, hn1 β1 w1 v' h1 h2 h3⟩
    by_cases hwr : Wr hs i
    · -- a writer: it is the stage's own
      have hie : i = e := by
        by_cases h1 : i = e
        · exact h1
        · exfalso
          have h2 : e ≤ i := by
            by_cases h3 : e ≤ i
            · exact h3
            · exact absurd (I.st1 i (by omega) hwr) hn
          obtain ⟨h3, h4⟩ := I.st2 (by omega)
          rcases C.bound hi hwr (show e < ops.size by omega) (fun h => h1 h.symm) (C.wr_mem (by omega) h3).1 with h5 | h5 | ⟨_, agg, a', h6, _⟩ | ⟨h5, _⟩ | ⟨h5, _⟩ | ⟨_, fl, z, mm, kk, h6, _⟩
          · exact h4 (hc e h5)
          · have := ordB_lt hE e h5; omega
          · have := (C.wr_mem (show e < ops.size by omega) h3).2
            rw [h6] at this; cases this
          · omega
          · omega
          · have := (C.wr_mem (show e < ops.size by omega) h3).2
            rw [h6] at this; cases this
      subst hie
      have hR := I.M.start hm (Nat.le_refl i) (g := hs i) rfl (fun b _ => .inr ⟨rfl, fun k h1 h2 => by omega⟩)
      refine run hS hR fun β1 w1 v' hv R1 E1 => ?_
      obtain ⟨e', e1, e2, e3, e4⟩ := stage_next (fun j => Wr hs j ∧ ¬ Listed (l.setIfInBounds i true) j) ops.size _ (i + 1) rfl (by omega) (fun j hj hp => by
        by_cases hji : j = i
        · exact hp.2 ((listed_set hil).2 (.inl hji))
        · exact hp.2 ((listed_set hil).2 (.inr (I.st1 j (by omega) hp.1))))
      obtain ⟨γ, Y1, M1, X1, Z1⟩ := I.M.write hm hi hfree R1 E1 e1 e2 (fun k h1 h2 => by
        have hnw : ¬ Wr hs k := fun hwk => by
          have hl := Classical.byContradiction fun h => e3 k h2 ⟨hwk, h⟩
          rcases (listed_set hil).1 hl with h4 | h4
          · omega
          · have := I.later C (show k < ops.size by omega) hwk h4; omega
        exact grow_of_not_wr hnw)
      exact hK e' γ _ w1 (I.step C ho hn hc Y1 M1 X1 (hv.mono Z1) (fun j hj hwj => Classical.byContradiction fun h => e3 j hj ⟨hwj, h⟩) e4)
    · have hgr := grow_of_not_wr hwr
      have done : ∀ {γ : Bij} {β1 : Bij} {w1 : World} {v' : Value}, (∀ b, ¬ ((hs i).size ≤ b ∧ b < (hs (i + 1)).size) → γ b = β b) → MInv P lo n0 hs ops.size e γ w1 → ExtW lo β (hs e) w γ (hs e) w1 → BLe β1 (cutB γ (hs (i + 1)).size) →
          VRel β1 (vs i) v' → K (a.put o.dst v') w1 := fun h1 h2 h3 h4 h5 => hK e _ _ _ (I.step C ho hn hc h1 h2 h3 (h5.mono h4) s1same (s2same hwr))
      by_cases hal : e < i ∧ ∃ z, op = .alloc z
      · -- a new variable, made before a writer that comes before it in the text
        obtain ⟨hei, z, rfl⟩ := hal
        have hv : aop lo (.alloc z) (frs i) (hs i) = some (vs i, hs (i + 1)) := by
          rcases hopc with ⟨f, args, he⟩ | he
          · cases he
          · exact he
        simp only [aop, Option.some.injEq, Prod.mk.injEq] at hv
        obtain ⟨hv1, hv2⟩ := hv
        have hjs : (junkH (hs i).size).size = (hs i).size := by simp [junkH]
        have hv3 : aop lo (.alloc z) (frs i) (junkH (hs i).size) = some (vs i, (junkH (hs i).size).push (.cells z)) := by
          simp only [aop, hjs, hv1]
        have hst := StepSim.of_op (P := P) (n0 := n0) hv3
        refine run hst (I.M.blind hm (by omega)) fun β1 w1 v' hv' R1 E1 => ?_
        have hs1 : (hs (i + 1)).size = (hs i).size + 1 := by rw [← hv2]; simp
        obtain ⟨γ, g1, g2, g3, g4⟩ := I.M.grow hm hi hjs (by rw [Array.size_push, hjs, hs1]) (fun b hb => .inl (junkH_get hb)) (fun b h1 h2 => by
          have hb : b = (hs i).size := by omega
          subst hb
          have e1 : (hs (i + 1))[(hs i).size]? = some (.cells z) := by rw [← hv2]; simp
          have e2 : ((junkH (hs i).size).push (.cells z))[(hs i).size]? = some (AObj.cells z) := by
            have := Array.getElem?_push_size (xs := junkH (hs i).size) (x := AObj.cells z)
            rwa [hjs] at this
          exact ⟨by rw [e1, e2], .inr ⟨by omega, by rw [e1]; simp⟩⟩) hfree R1 E1
        exact done g1 g2 g3 g4 hv'
      by_cases hel : e < i ∧ ∃ agg a', op = .load agg a'
      · -- a load, made before appends that come before it in the text
        obtain ⟨hei, agg, ad, rfl⟩ := hel
        have hv : aop lo (.load agg ad) (frs i) (hs i) = some (vs i, hs (i + 1)) := by
          rcases hopc with ⟨f, args, he⟩ | he
          · cases he
          · exact he
        obtain ⟨b0, o0, ha, hh, hb0, hld⟩ := aop_load hv
        have hcell : (hs i)[b0]? ≠ some .junk := fun hj => by
          have hg : (junkH (hs i).size)[b0]? = (hs i)[b0]? := by rw [junkH_get hb0, hj]
          have := hld _ hg
          rw [load_junk (junkH_get hb0) ha] at this
          cases this
        have hgj : ∀ k, e ≤ k → k < i → GrowJ (hs k) (hs (k + 1)) := fun k h1 h2 => by
          by_cases hwk : Wr hs k
          · rcases C.bound (show k < ops.size by omega) hwk hi (by omega) (by rw [hop]; rfl) with h5 | h5 | ⟨h6, _⟩ | ⟨_, z, h6⟩ | ⟨_, _, h6⟩ | ⟨h6, _⟩
            · have := ordB_lt hE k h5; omega
            · have := I.later C (show k < ops.size by omega) hwk (hc k h5); omega
            · omega
            · rw [hop] at h6; cases h6
            · exact h6
            · omega
          · have hg := grow_of_not_wr hwk
            exact ⟨hg.1, fun b hb => .inl (hg.2 b hb)⟩
        have hback : ∀ j k, i - k = j → e ≤ k → k ≤ i → b0 < (hs k).size → (hs k)[b0]? = (hs i)[b0]? := by
          intro j
          induction j with
          | zero => intro k h1 h2 h3 h4; obtain rfl : k = i := by omega
                    rfl
          | succ j ih =>
            intro k h1 h2 h3 h4
            have hg := hgj k h2 (by omega)
            have h5 := ih (k + 1) (by omega) (by omega) (by omega) (Nat.lt_of_lt_of_le h4 hg.1)
            rcases hg.2 b0 h4 with h6 | h6
            · rw [← h6, h5]
            · rw [h5] at h6; exact absurd h6 hcell
        obtain ⟨ob, hob⟩ : ∃ ob, (hs i)[b0]? = some ob := ⟨_, Array.getElem?_eq_getElem hb0⟩
        have hR := I.M.peek hm (show i ≤ ops.size by omega) hb0 (o := ob) fun r d hb => by
          by_cases hbe : b0 < (hs e).size
          · have h1 := hback _ e rfl (Nat.le_refl _) (by omega) hbe
            exact (I.M.obj b0 r d ob hb (by rw [h1, hob]) e (Nat.le_refl _) hbe (fun k h1 h2 => by omega)).mono (cutB_le_cutB β (mono_sizes hm (show e ≤ i by omega) (by omega)))
          · obtain ⟨q, o', q1, q2, q3, q4, q5⟩ := I.M.early b0 r d hb (by omega)
            have hqi : q + 1 ≤ i := by
              by_cases h : q + 1 ≤ i
              · exact h
              · have := mono_sizes hm (show i ≤ q by omega) (by omega); omega
            have heq : e ≤ q + 1 := by
              by_cases h : e ≤ q + 1
              · exact h
              · have := mono_sizes hm (show q + 1 ≤ e by omega) I.M.en; omega
            have h1 := hback _ (q + 1) rfl heq hqi q3
            rw [q4, hob] at h1
            cases h1
            exact q5.mono (cutB_le_cutB β (mono_sizes hm hqi (by omega)))
        have hld' := hld ((junkH (hs i).size).setIfInBounds b0 ob) (by rw [Array.getElem?_setIfInBounds_self_of_lt (by simp [junkH]; exact hb0), hob])
        refine load_run hld' l1 ro hR hagree (hF (.refl _)) _ _ fun v' hv' => ⟨v', rfl, ?_⟩
        exact hK e β _ w (I.step C ho hn hc (fun b _ => rfl) I.M .refl (hv'.mono (cutB_le_cutB β (hm i hi))) s1same (s2same hwr))
      by_cases hmem : op.mem = true
      · have hie : i ≤ e := by
          by_cases h1 : i ≤ e
          · exact h1
          · exfalso
            obtain ⟨h3, h4⟩ := I.st2 (by omega)
            rcases C.bound (show e < ops.size by omega) h3 hi (by omega) (by rw [hop]; exact hmem) with h5 | h5 | ⟨h6, _⟩ | ⟨_, z, h6⟩ | ⟨_, ⟨agg, a', h6⟩, _⟩ | ⟨h6, _⟩
            · have := ordB_lt hE e h5; omega
            · exact h4 (hc e h5)
            · omega
            rotate_left
            rotate_left
            · omega
            · exact hal ⟨by omega, z, by rw [← hop]; exact h6⟩
            · exact hel ⟨by omega, agg, a', by rw [← hop]; exact h6⟩
        by_cases hlate : ∃ k fl z mm kk, i ≤ k ∧ k < e ∧ Wr hs k ∧ op = .lookup fl z false mm kk ∧ atomV z = true ∧ mm.ev (frs k) = mm.ev (frs i) ∧ kk.ev (frs k) = kk.ev (frs i) ∧
            lookAtom (hs k) fl (mm.ev (frs i)) (kk.ev (frs i)) = true ∧ aop lo (.mapEntry fl z mm kk) (frs k) (hs k) = some (vs k, hs (k + 1))
        · -- a look at a map, behind entries that were made for the same key
          obtain ⟨k0, fl, z, mm, kk, hk1, hk2, hkw, rfl, hz, _, _, hka, _⟩ := hlate
          have hv : aop lo (.lookup fl z false mm kk) (frs i) (hs i) = some (vs i, hs (i + 1)) := by
            rcases hopc with ⟨f, args, he⟩ | he
            · cases he
            · exact he
          have hstep : ∀ k, i ≤ k → k < e → Grow (hs k) (hs (k + 1)) ∨ (mm.ev (frs k) = mm.ev (frs i) ∧ kk.ev (frs k) = kk.ev (frs i) ∧ aop lo (.mapEntry fl z mm kk) (frs k) (hs k) = some (vs k, hs (k + 1))) := by
            intro k h1 h2
            have hken := I.M.en
            by_cases hwk : Wr hs k
            · have hik : i ≠ k := by rintro rfl; exact hwr hwk
              rcases C.bound (show k < ops.size by omega) hwk hi hik (by rw [hop]; exact hmem) with h5 | h5 | ⟨h6, agg, a', h7, _⟩ | ⟨h6, _⟩ | ⟨h6, _⟩ | ⟨h6, fl', z', mm', kk', h7, _, h8, h9, _, h10⟩
              · exact absurd (I.cl k (I.st1 k h2 hwk) i h5) hn
              · have := ordB_lt hE i h5; omega
              · rw [hop] at h7; cases h7
              · omega
              · omega
              · rw [hop] at h7
                cases h7
                exact .inr ⟨h8, h9, h10⟩
            · exact .inl (grow_of_not_wr hwk)
          have hall := look_keeps (lo := lo) (fl := fl) (z := z) (mm := mm) (kk := kk) hv hstep (k0 := k0) hk1 hk2 hz hka
          obtain ⟨hve, hat⟩ := hall
          have hR : HRel P lo n0 (cutB β (hs e).size) (hs e) w := I.M.start hm (Nat.le_refl e) rfl (fun b _ => .inr ⟨rfl, fun k h1 h2 => by omega⟩)
          refine lookup_run hve l1 ro hR hagree (hF (cutB_le_cutB β (mono_sizes hm hie I.M.en))) _ _ fun v' hv' => ⟨v', rfl, ?_⟩
          have hv2 : ∀ δ : Bij, VRel δ (vs i) v' := fun δ => atom_rel hv' hat
          exact hK e β _ w (I.step C ho hn hc (fun b _ => rfl) I.M .refl (hv2 _) s1same (s2same hwr))
        have wrs : ∀ k, i ≤ k → k < e → Wr hs k → ∃ agg a', op = .load agg a' ∧ i < k ∧ a' ∈ lateList (Region.before ops) (lowsOf P N ops) ops k ∧ lateCand (lowsOf P N ops) ops k i = some a' := by
          intro k h1 h2 h3
          have hken := I.M.en
          have hki : i ≠ k := by rintro rfl; exact hwr h3
          have hlk := I.st1 k h2 h3
          rcases C.bound (show k < ops.size by omega) h3 hi hki (by rw [hop]; exact hmem) with h5 | h5 | ⟨h6, agg, a', h7, h8, h9⟩ | ⟨h6, _⟩ | ⟨h6, _⟩ | ⟨h6, fl, z, mm, kk, h7, h8, h9, h10, h11, h12⟩
          · exact absurd (I.cl k hlk i h5) hn
          · have := ordB_lt hE i h5; omega
          rotate_left
          · omega
          · omega
          · rw [hop] at h7
            exact absurd ⟨k, fl, z, mm, kk, h1, h2, h3, h7, h8, h9, h10, h11, h12⟩ hlate
          · rw [hop] at h7
            exact ⟨agg, a', h7, h6, h8, h9⟩
        by_cases hload : ∃ agg a', op = .load agg a'
        · -- a load
          obtain ⟨agg, ad, rfl⟩ := hload
          have hv : aop lo (.load agg ad) (frs i) (hs i) = some (vs i, hs (i + 1)) := by
            rcases hopc with ⟨f, args, he⟩ | he
            · cases he
            · exact he
          obtain ⟨b0, o0, ha, hh, hb0, hld⟩ := aop_load hv
          have hconst : ∀ k, i ≤ k → k < e → (hs (k + 1))[b0]? = (hs k)[b0]? := by
            intro k h1 h2
            have hken := I.M.en
            by_cases hwk : Wr hs k
            · obtain ⟨agg', a', h3, h4, h5, h6⟩ := wrs k h1 h2 hwk
              cases h3
              exact C.late h4 (by omega) hwk hop h5 h6 ha
            · exact (grow_of_not_wr hwk).2 b0 (Nat.lt_of_lt_of_le hb0 (mono_sizes hm h1 (by omega)))
          let gh : AH := (junkH (hs i).size).setIfInBounds b0 ((hs i)[b0]'hb0)
          have hgsz : gh.size = (hs i).size := by simp [gh, junkH]
          have hgb0 : gh[b0]? = (hs i)[b0]? := by
            simp only [gh]
            rw [Array.getElem?_setIfInBounds_self_of_lt (by simp [junkH]; exact hb0), Array.getElem?_eq_getElem hb0]
          have hgne : ∀ b, b < (hs i).size → b ≠ b0 → gh[b]? = some .junk := fun b h1 h2 => by
            simp only [gh]
            rw [Array.getElem?_setIfInBounds_ne (Ne.symm h2)]
            exact junkH_get h1
          have hR : HRel P lo n0 (cutB β (hs i).size) gh w := I.M.start hm hie hgsz (fun b hb => by
            by_cases hbb : b = b0
            · subst hbb; exact .inr ⟨hgb0, hconst⟩
            · exact .inl (hgne b hb hbb))
          have hst := StepSim.of_op (P := P) (n0 := n0) (hld gh hgb0)
          refine run hst hR fun β1 w1 v' hv' R1 E1 => ?_
          have hs1 : (hs (i + 1)).size = (hs i).size := by rw [hh]
          obtain ⟨γ, g1, g2, g3, g4⟩ := I.M.grow hm hi hgsz (by rw [hgsz, hs1]) (fun b hb => by
            by_cases hbb : b = b0
            · subst hbb
              exact .inr ⟨by rw [hgb0, same_run hie hconst], rfl⟩
            · exact .inl (hgne b hb hbb)) (fun b h1 h2 => by omega) hfree R1 E1
          exact done g1 g2 g3 g4 hv'
        · have hconst : ∀ (k b : Nat), i ≤ k → k < e → b < (hs k).size → (hs (k + 1))[b]? = (hs k)[b]? := by
            intro k b h1 h2 h3
            by_cases hwk : Wr hs k
            · obtain ⟨agg', a', h4, _⟩ := wrs k h1 h2 hwk
              exact absurd ⟨agg', a', h4⟩ hload
            · exact (grow_of_not_wr hwk).2 b h3
          have hen := I.M.en
          have hR : HRel P lo n0 (cutB β (hs i).size) (hs i) w := I.M.start hm hie rfl (fun b hb => .inr ⟨rfl, fun k h1 h2 => hconst k b h1 h2 (Nat.lt_of_lt_of_le hb (mono_sizes hm h1 (by omega)))⟩)
          refine run hS hR fun β1 w1 v' hv' R1 E1 => ?_
          have hlast : ∀ b, (hs i).size ≤ b → b < (hs (i + 1)).size → i + 1 ≤ e := fun b h1 h2 => by
            by_cases h3 : i = e
            · exfalso
              subst h3
              exact hwr (I.st2 hi).1
            · omega
          obtain ⟨γ, g1, g2, g3, g4⟩ := I.M.grow hm hi (g := hs i) (g' := hs (i + 1)) rfl rfl
            (fun b hb => .inr ⟨(same_run hie fun k h1 h2 => hconst k b h1 h2 (Nat.lt_of_lt_of_le hb (mono_sizes hm h1 (by omega)))).symm, hgr.2 b hb⟩)
            (fun b h1 h2 => ⟨rfl, .inl ⟨hlast b h1 h2, fun k h3 h4 => hconst k b (by omega) h4 (Nat.lt_of_lt_of_le h2 (mono_sizes hm h3 (by omega)))⟩⟩) hfree R1 E1
          exact done g1 g2 g3 g4 hv'
      · -- not on memory
        have hmem : op.mem = false := by simpa using hmem
        have hv : aop lo op (frs i) (hs i) = some (vs i, hs (i + 1)) := by
          rcases hopc with ⟨f, args, he⟩ | he
          · rw [he] at hmem; cases hmem
          · exact he
        have hh : hs (i + 1) = hs i := by
          have := aop_blind hmem hv (hs i)
          rw [hv] at this
          simp only [Option.some.injEq, Prod.mk.injEq] at this
          exact this.2
        have hst := StepSim.of_op (P := P) (n0 := n0) (aop_blind hmem hv (junkH (hs i).size))
        refine run hst (I.M.blind hm (by omega)) fun β1 w1 v' hv' R1 E1 => ?_
        have hs1 : (hs (i + 1)).size = (hs i).size := by rw [hh]
        have hjs : (junkH (hs i).size).size = (hs i).size := by simp [junkH]
        obtain ⟨γ, g1, g2, g3, g4⟩ := I.M.grow hm hi hjs (by rw [hjs, hs1]) (fun b hb => .inl (junkH_get hb)) (fun b h1 h2 => by omega) hfree R1 E1
        exact done g1 g2 g3 g4 hv'
end
end Go.RS

