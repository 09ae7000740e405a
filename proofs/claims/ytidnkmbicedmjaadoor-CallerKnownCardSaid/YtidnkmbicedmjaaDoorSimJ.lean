/- Each operation of the abstract machine is followed by the real one (8): append. -/
import Derived.Test.YtidnkmbicedmjaaDoorSimI
namespace Go.RS
open Go

section
variable {P : Program} {lo n0 : Nat} {β : Bij} {h h1 : AH} {w : World} {fr : Fr} {a : Act}

theorem append_in {t u e eu ty : TypeId} {i : TypeInfo} (ht : P.underlying t = some (.slice e)) (hu : P.underlying u = some (.slice eu)) (hi : P.info? e = some i)
    {base : Option Addr} {sl sc n : Nat} {x : Value} {new : List Value} {w1 : World} (hl : (Builtin.lenOf x).run P w = .ok n w) (hf : (Builtin.firstCells i.size n x).run P w = .ok new.toArray w) (hn : sl + n ≤ sc)
    (hst : (match base with | some a => storeCells (a.add (sl * i.size)) new | none => pure () : Sem Unit).run P w = .ok () w1) :
    (Builtin.append_ #[t, u] ty #[.slice base sl sc, x]).run P w = .ok (.slice base (sl + n) sc) w1 := by
  have hsz : szOf P e = some i.size := by simp [szOf, hi]
  unfold Builtin.append_
  simp only [List.size_toArray, List.length_cons, List.length_nil, Nat.zero_add, Nat.reduceAdd, Nat.lt_add_one, getElem?_pos, Nat.zero_lt_succ, List.getElem_toArray, List.getElem_cons_zero, List.getElem_cons_succ]
  simp only [Sem.run_bind, run_underlying ht, Result.andThen_ok, szOf_run hsz, run_underlying hu, Sem.run_pure]
  simp only [Bool.false_eq_true, if_false, Sem.run_bind, hl, Result.andThen_ok, Bool.not_false, if_true]
  rw [if_pos hn]
  cases base with
  | none =>
    simp only [Sem.run_pure] at hst
    cases hst
    simp only [Sem.run_bind, hf, Result.andThen_ok, Sem.run_pure]
  | some b =>
    simp only at hst
    simp only [Sem.run_bind, hf, Result.andThen_ok, hst, Sem.run_pure]

theorem append_out {t u e eu ty : TypeId} {i : TypeInfo} {z : Value} (ht : P.underlying t = some (.slice e)) (hu : P.underlying u = some (.slice eu)) (hi : P.info? e = some i) (hiz : i.zero = some z)
    {base : Option Addr} {sl sc n : Nat} {x : Value} {old new : List Value} (hl : (Builtin.lenOf x).run P w = .ok n w) (hf : ∀ w2 : World, w2.heap = w.heap → (Builtin.firstCells i.size n x).run P w2 = .ok new.toArray w2)
    (ho : ∀ w2 : World, w2.heap = w.heap → (Builtin.firstCells i.size sl (.slice base sl sc)).run P w2 = .ok old.toArray w2) (hn : ¬ sl + n ≤ sc) (hfit : fits (sl + n) i.bytes = true) :
    ∃ cap k rest, (sl + n ≤ cap ∧ (old.length = sl * i.size → new.length = n * i.size → z.cells.size = i.size → cap * i.size ≤ (old.toArray ++ new.toArray ++ rest).size)) ∧ (Builtin.append_ #[t, u] ty #[.slice base sl sc, x]).run P w =
      .ok (.slice (some ⟨w.heap.size, 0, none⟩) (sl + n) cap) { w with drawn := k, heap := w.heap.push (.cells (old.toArray ++ new.toArray ++ rest) e (0, 0)) } := by
  have hsz : szOf P e = some i.size := by simp [szOf, hi]
  have hzv : zeroOf P e = some z := by simp [zeroOf, hi, hiz]
  obtain ⟨g1, g2, g3⟩ := fits_run (old := sc) hfit (by omega)
  have hq : (Question.appendCap (sl + n) sc e).forced = false := rfl
  have hbig : ¬ (((sl + n : Nat) : Int) > IntKind.i64.max ∧ i.bytes = 0) := fun hb => by omega
  refine ⟨(Question.appendCap (sl + n) sc e).cut (w.tape w.drawn (.appendCap (sl + n) sc e)), w.drawn + 1,
    Builtin.zeroCells z.cells ((Question.appendCap (sl + n) sc e).cut (w.tape w.drawn (.appendCap (sl + n) sc e)) - (sl + n)), ?_, ?_⟩
  · refine ⟨by simp only [Question.cut]; omega, fun g4 g5 g6 => ?_⟩
    simp only [Array.size_append, List.size_toArray, g4, g5, Builtin.zeroCells, Array.size_map, Array.size_range, g6, ← Nat.add_mul]
    exact Nat.mul_le_mul_right _ (by omega)
  unfold Builtin.append_
  simp only [List.size_toArray, List.length_cons, List.length_nil, Nat.zero_add, Nat.reduceAdd, Nat.lt_add_one, getElem?_pos, Nat.zero_lt_succ, List.getElem_toArray, List.getElem_cons_zero, List.getElem_cons_succ]
  simp only [Sem.run_bind, run_underlying ht, Result.andThen_ok, szOf_run hsz, run_underlying hu, Sem.run_pure]
  simp only [Bool.false_eq_true, if_false, Sem.run_bind, hl, Result.andThen_ok, Bool.not_false, if_true]
  rw [if_neg hn]
  simp only [Sem.run_bind, typeInfo, run_program, Result.andThen_ok, hi, Sem.run_pure, false_or, hbig, if_false, g1, run_choose, hq, Bool.false_eq_true, run_askRoom]
  rw [ho { w with drawn := w.drawn + 1 } rfl]
  simp only [Result.andThen_ok]
  rw [hf { w with drawn := w.drawn + 1 } rfl]
  simp only [Result.andThen_ok, zeroOf_run hzv, newRow, Sem.run_bind, run_newObj, Sem.run_pure]

theorem cells_prefix {β : Bij} {c c' : List Value} {e : TypeId} (h : LRel β c c') (rest : Array Value) : ORel P β True (.cells c) (some (.cells (c'.toArray ++ rest) e (0, 0))) (0, objSize (.cells (c'.toArray ++ rest) e (0, 0))) :=
  ⟨_, e, (0, 0), rfl, fun _ => rfl, rfl, fun i v hv => by
    obtain ⟨v', h1, h2⟩ := h.get hv
    refine ⟨v', ?_, h2⟩
    have hlt : i < c'.length := (List.getElem?_eq_some_iff.1 h1).1
    rw [Nat.zero_add, Array.getElem?_append_left (by simpa using hlt)]
    simpa using h1⟩

theorem VSim.new' (R : HRel P lo n0 β h w) {o : AObj} {o' : Obj} (ho : ORel P β True o (some o') (0, objSize o')) {v v' : Value} {k : Nat}
    (hv : VRel (bset β h.size (w.heap.size, (0, objSize o'))) v v') {r : Result Value} (hr : r = .ok v' { w with drawn := k, heap := w.heap.push o' }) : VSim P lo n0 β h w v (h.push o) r :=
  ⟨_, { w with drawn := k, heap := w.heap.push o' }, v', hr, hv, (R.alloc o o' ho).1.drew k, (R.alloc o o' ho).2.drew k⟩

theorem addr_add (b o n : Nat) : (⟨b, o, none⟩ : Addr).add n = ⟨b, o + n, none⟩ := by
  unfold Addr.add
  split
  · rename_i h0; rw [h0]; rfl
  · rfl
theorem addr_add' {x : Addr} (hs : x.spot = none) (n : Nat) : x.add n = ⟨x.block, x.off + n, none⟩ := by
  obtain ⟨b, o, s⟩ := x
  simp only at hs; subst hs
  exact addr_add b o n
theorem op_append (R : HRel P lo n0 β h w) {t u e eu ty : TypeId} {i : TypeInfo} {z : Value} (ht : P.underlying t = some (.slice e)) (hu : P.underlying u = some (.slice eu)) (hi : P.info? e = some i) (hiz : i.zero = some z) (hzs : z.cells.size = i.size)
    {s x s' x' v : Value} (hs : VRel β s s') (hx : VRel β x x') (hv : appendA lo h i.size i.bytes s x = some (v, h1)) :
    VSim P lo n0 β h w v h1 ((Builtin.append_ #[t, u] ty #[s', x']).run P w) := by
  unfold appendA at hv
  split at hv
  · cases hv
  · rename_i n new hel
    obtain ⟨new', hnn, hnl, hlen, hcells⟩ := elems_rel R hel hx
    have hop : openCap = 18446744073709551616 := rfl
    have hnl' : new'.length = n * i.size := by rw [← hnn.1, hnl]
    split at hv
    · -- nil
      rename_i sl sc
      split at hv
      · rename_i h0
        obtain ⟨rfl, rfl⟩ := h0
        cases hs
        split at hv
        · rename_i hn0'
          subst hn0'
          cases hv
          refine .quiet R (.sl0 0 0) ?_
          exact append_in ht hu hi (hlen w) (hcells w rfl) (by omega) rfl
        · rename_i hn0'
          split at hv
          · rename_i hfit
            cases hv
            obtain ⟨cap, k, rest, ⟨hc1, hc2⟩, hr⟩ := append_out (w := w) (old := []) (ty := ty) ht hu hi hiz (base := none) (sl := 0) (sc := 0) (hlen w) hcells (fun w2 _ => run_firstCells_none w2 _ _ _ _) (by omega) (by simpa using hfit)
            have hc := cells_prefix (P := P) (e := e) hnn rest
            have hcc := hc2 (by simp) hnl' hzs
            refine .new' R (o' := .cells (([] : List Value).toArray ++ new'.toArray ++ rest) e (0, 0)) (by simpa using hc) (.sl (a' := ⟨w.heap.size, 0, none⟩) (c' := cap) arel_new ?_) (by simpa using hr)
            have := fits_run (old := 0) hfit (by omega)
            exact ⟨by omega, .inr ⟨i.size, rfl, by omega, fun _ => ⟨_, _, bset_same _ _ _, by simpa [objSize] using hcc⟩⟩⟩
          · cases hv
      · cases hv
    · rename_i b o sl sc
      cases hs with
      | @sl _ a' _ _ sc' ha hcr =>
      have hsp := ha.s'
      have hslc : sl ≤ sc' := by rcases hcr.2 with ⟨q1, q2, q3⟩ | ⟨s, q1, q2, _⟩ <;> omega
      split at hv
      · -- nothing to add
        rename_i hn0'
        subst hn0'
        split at hv
        · cases hv
          refine .quiet R (.sl ha hcr) ?_
          have hnil : new' = [] := List.eq_nil_of_length_eq_zero (by omega)
          subst hnil
          exact append_in ht hu hi (hlen w) (hcells w rfl) (by omega) (by simp [storeCells])
        · cases hv
      · rename_i hn0'
        split at hv
        · -- the capacity is not known
          rename_i hopen
          split at hv
          · rename_i c hcb
            split at hv
            · rename_i hcond
              obtain ⟨hsc, hi0, hlo, hend, hfit, hscal⟩ := hcond
              subst hsc
              cases hv
              obtain ⟨hl1, hc2⟩ := hcr
              obtain ⟨s2, hs2, q2, q3⟩ : ∃ s, openCap + i.size = openCap + s ∧ sl ≤ sc' ∧ (0 < s → ∃ r d, β b = some (r, d) ∧ d.1 + o + sc' * s ≤ d.2) := by
                rcases hc2 with ⟨q1, q2, q3⟩ | q
                · omega
                · exact q
              have hs2' : s2 = i.size := by omega
              subst hs2'
              obtain ⟨r0, d0, hb0, hd0⟩ := q3 (Nat.pos_of_ne_zero hi0)
              obtain ⟨_, _, d, hb, hoff⟩ := ha
              dsimp only at hb hoff
              rw [hb] at hb0
              simp only [Option.some.injEq, Prod.mk.injEq] at hb0
              obtain ⟨rfl, rfl⟩ := hb0
              clear hc2 q3
              obtain ⟨c', e', fz, g1, g2, gz, g3⟩ := R.obj b a'.block d _ hb hcb
              have hfz := g2 hlo; subst hfz
              have hfr := fits_run (old := sl) hfit (by omega)
              -- the old cells
              have hold : LRel β (c.drop o) ((c'.toList.drop (d.1 + o)).take (sl * i.size)) := by
                refine ⟨?_, fun j v v' x y => ?_⟩
                · simp only [List.length_drop, List.length_take, Array.length_toList]
                  rcases Nat.eq_zero_or_pos (sl * i.size) with h0 | h0
                  · omega
                  · obtain ⟨v', h4, _⟩ := g3 (c.length - 1) c[c.length - 1] (List.getElem?_eq_getElem (by omega))
                    have := (Array.getElem?_eq_some_iff.1 h4).1
                    omega
                · rw [List.getElem?_drop] at x
                  rw [List.getElem?_take] at y
                  split at y
                  · rw [List.getElem?_drop, Nat.add_assoc] at y
                    obtain ⟨v2, h4, h5⟩ := g3 _ _ x
                    rw [← Array.getElem?_toList, y] at h4; cases h4; exact h5
                  · cases y
              have hlenc : (c.drop o).length = sl * i.size := by simp; omega
              by_cases hin : sl + n ≤ sc'
              · -- there is room: it is written where it lies
                have hmul : (sl + n) * i.size = sl * i.size + n * i.size := Nat.add_mul _ _ _
                have hroom : d.1 + o + (sl + n) * i.size ≤ c'.size := by
                  have := Nat.mul_le_mul_right i.size hin
                  omega
                have hone : ∀ v ∈ new', v.oneCell' = true := by
                  intro v hv'
                  obtain ⟨j, hj⟩ := List.getElem?_of_mem hv'
                  have hjl : j < new.length := hnn.1 ▸ (List.getElem?_eq_some_iff.1 hj).1
                  have h6 := (hnn.2 j new[j] v (List.getElem?_eq_getElem hjl) hj).scal
                  rw [List.all_eq_true.1 hscal new[j] (by simp)] at h6
                  cases v <;> simp_all [RS.scal, Value.oneCell']
                have hrun := run_storeCells_at (P := P) a'.block (a'.off + sl * i.size) e' new' 0 c' w g1 (by omega) hone
                rw [← addr_add' hsp] at hrun
                have hr := append_in (ty := ty) ht hu hi (base := some a') (sl := sl) (sc := sc') (hlen w) (hcells w rfl) hin hrun
                have hw : w.setRow a'.block (c'.toList.take (a'.off + sl * i.size + 0) ++ new' ++ c'.toList.drop (a'.off + sl * i.size + 0 + new'.length)).toArray =
                    { w with heap := w.heap.setIfInBounds a'.block (.cells (c'.toList.take (a'.off + sl * i.size) ++ new' ++ c'.toList.drop (a'.off + sl * i.size + new'.length)).toArray e' (0, 0)) } := by
                  simp only [World.setRow, Nat.add_zero]
                  congr 1
                  apply Array.ext_getElem?
                  intro j
                  by_cases hj : j = a'.block
                  · subst hj
                    have hlt : a'.block < w.heap.size := (R.dom b _ _ hb).2
                    rw [Array.getElem?_modify, if_pos rfl, g1, Array.getElem?_setIfInBounds_self]
                    simp only [hlt, if_true, Option.map_some]
                  · rw [Array.getElem?_setIfInBounds_ne (Ne.symm hj), Array.getElem?_modify, if_neg (Ne.symm hj)]
                rw [hw] at hr
                have key := R.grow hlo hb (by rw [hcb]; simp) (.cells (c.drop o ++ new)) (.cells (c'.toList.take (a'.off + sl * i.size) ++ new' ++ c'.toList.drop (a'.off + sl * i.size + new'.length)).toArray e' (0, 0)) (d.1 + o, d.2) ?_ (fun L hL => by rw [g1] at hL; cases hL)
                · refine ⟨_, _, _, hr, .sl ⟨rfl, hsp, (d.1 + o, d.2), by simp, by simp [hoff]⟩ ⟨by omega, .inr ⟨i.size, rfl, by omega, fun _ => ⟨_, _, bset_same _ _ _, by simpa using hd0⟩⟩⟩, key.1, key.2⟩
                · refine ⟨_, e', _, rfl, fun _ => rfl, by simp; omega, fun j v hj => ?_⟩
                  simp only [List.getElem?_toArray]
                  by_cases hj1 : j < sl * i.size
                  · rw [List.getElem?_append_left (by omega)] at hj
                    rw [List.getElem?_drop] at hj
                    obtain ⟨v', h8, h9⟩ := g3 _ _ hj
                    refine ⟨v', ?_, h9⟩
                    rw [List.append_assoc, List.getElem?_append_left (by simp; omega), List.getElem?_take, if_pos (by omega), Array.getElem?_toList, Nat.add_assoc]
                    exact h8
                  · rw [List.getElem?_append_right (by omega), hlenc] at hj
                    obtain ⟨v', h8, h9⟩ := hnn.get hj
                    refine ⟨v', ?_, h9⟩
                    have hlt := (List.getElem?_eq_some_iff.1 h8).1
                    have htk : (c'.toList.take (a'.off + sl * i.size)).length = a'.off + sl * i.size := by simp; omega
                    rw [List.append_assoc, List.getElem?_append_right (by omega), htk, List.getElem?_append_left (by omega)]
                    rw [show d.1 + o + j - (a'.off + sl * i.size) = j - sl * i.size by omega]; exact h8
              · obtain ⟨cap, k, rest, ⟨hc1, hc2⟩, hr⟩ := append_out (w := w) (old := (c'.toList.drop (d.1 + o)).take (sl * i.size)) (ty := ty) ht hu hi hiz (base := some a') (sl := sl) (sc := sc') (hlen w) hcells
                  (fun w2 hw2 => by
                    refine run_firstCells_some w2 i.size sl a' sl sc' _ (by rw [← hold.1, hlenc]) (fun j v hj => ?_)
                    rw [List.getElem?_take] at hj
                    split at hj
                    · rw [List.getElem?_drop] at hj
                      rw [addr_add' hsp]
                      unfold World.cell?
                      dsimp only
                      rw [hw2, g1]
                      simp only [Option.isSome_none, Bool.false_eq_true, if_false]
                      rw [hoff, ← Array.getElem?_toList]; exact hj
                    · cases hj) hin hfit
                obtain ⟨R2, E2⟩ := R.kill b
                have hc := cells_prefix (P := P) (e := e) (hold.append hnn) rest
                have hcc := hc2 (by rw [← hold.1, hlenc]) hnl' hzs
                refine VSim.after E2 ?_
                have hsz : (h.setIfInBounds b .junk).size = h.size := by simp
                rw [show (⟨h.size, 0, none⟩ : Addr) = ⟨(h.setIfInBounds b .junk).size, 0, none⟩ by rw [hsz]]
                exact .new' R2 (o' := .cells (((c'.toList.drop (d.1 + o)).take (sl * i.size)).toArray ++ new'.toArray ++ rest) e (0, 0)) (by simpa using hc) (.sl (a' := ⟨w.heap.size, 0, none⟩) (c' := cap) arel_new
                  ⟨by omega, .inr ⟨i.size, rfl, hc1, fun _ => ⟨_, _, bset_same _ _ _, by simpa [objSize] using hcc⟩⟩⟩) hr
            · cases hv
          · cases hv
        · rename_i hopen
          obtain ⟨hl1, hc2⟩ := hcr
          have hcc : sc < openCap ∧ sc' = sc ∧ sl ≤ sc := by
            rcases hc2 with q | ⟨s, q1, q2, _⟩
            · exact q
            · omega
          obtain ⟨q1, rfl, q3⟩ := hcc
          split at hv
          · -- within the capacity
            rename_i hin
            split at hv
            · rename_i hscal
              simp only [Option.map_eq_some_iff] at hv
              obtain ⟨h', hset, he⟩ := hv
              cases he
              have ha2 : ARel β ⟨b, o + sl * i.size, none⟩ (a'.add (sl * i.size)) := by
                have := ha.add (sl * i.size)
                rwa [addr_add] at this
              obtain ⟨w1, hst, hR, hE⟩ := set_rel R hset hnn hscal ha2
              exact ⟨β, w1, _, append_in (ty := ty) ht hu hi (base := some a') (sl := sl) (sc := sc') (hlen w) (hcells w rfl) hin hst, .sl ha ⟨by omega, .inl ⟨q1, rfl, hin⟩⟩, hR, hE⟩
            · cases hv
          · rename_i hin
            split at hv
            · rename_i old hold
              split at hv
              · rename_i hfit
                cases hv
                have hfr := fits_run (old := sc') hfit (by omega)
                obtain ⟨hol, old', hoo, hoc⟩ := cells_rel R hold ha
                obtain ⟨cap, k, rest, ⟨hc1, hc2⟩, hr⟩ := append_out (w := w) (old := old') (ty := ty) ht hu hi hiz (base := some a') (sl := sl) (sc := sc') (hlen w) hcells
                  (fun w2 hw2 => by
                    refine run_firstCells_some w2 i.size sl a' sl sc' _ (by rw [← hoo.1, hol]) (fun j v hj => ?_)
                    have := hoc j v hj
                    unfold World.cell? at this ⊢
                    rw [hw2]; exact this) hin hfit
                have hc := cells_prefix (P := P) (e := e) (hoo.append hnn) rest
                have hcc := hc2 (by rw [← hoo.1, hol]) hnl' hzs
                exact .new' R (o' := .cells (old'.toArray ++ new'.toArray ++ rest) e (0, 0)) (by simpa using hc) (.sl (a' := ⟨w.heap.size, 0, none⟩) (c' := cap) arel_new
                  ⟨by omega, .inr ⟨i.size, rfl, hc1, fun _ => ⟨_, _, bset_same _ _ _, by simpa [objSize] using hcc⟩⟩⟩) hr
              · cases hv
            · cases hv
    · cases hv
end
end Go.RS
