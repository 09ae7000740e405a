/- Each operation of the abstract machine is followed by the real one (6): slices made, cut and grown. -/
import Derived.Test.YtidnkmbicedmjaaDoorSimG
import Derived.IntWalk
namespace Go.RS
open Go

section
variable {P : Program} {lo n0 : Nat} {β : Bij} {h h1 : AH} {w : World} {fr : Fr} {a : Act}

theorem add_block (x : Addr) (n : Nat) : (x.add n).block = x.block := by unfold Addr.add; split <;> rfl
theorem add_off (x : Addr) (n : Nat) : (x.add n).off = x.off + n := by unfold Addr.add; split <;> simp_all
theorem capRel_zero : CapRel β default 0 0 0 := ⟨by simp [openCap], .inl ⟨by simp [openCap], rfl, Nat.le_refl _⟩⟩
theorem op_sliceV {size len cap : Nat} {b b' : Option Addr} {cap' : Nat} {ad : Addr} (hc : CapRel β ad len cap cap') (hb : (∃ x', b = some ad ∧ b' = some x' ∧ ARel β ad x') ∨ (b = none ∧ b' = none ∧ len = 0 ∧ cap = 0 ∧ cap' = 0))
    (hsz : ∀ s, cap = openCap + s → s = 0 ∨ s = size)
    {lo' hi mx lo2 hi2 mx2 : Option Value} (h1 : ORel' β lo' lo2) (h2 : ORel' β hi hi2) (h3 : ORel' β mx mx2) {v : Value} (hv : sliceV size b len cap lo' hi mx = some v) (isS : Bool) (w : World) :
    ∃ l hh m' , (Instr.sliceBounds isS len cap' lo2 hi2 mx2).run P w = .ok (l, hh, m') w ∧ VRel β v (.slice (if m' = l then b' else b'.map (·.add (l * size))) (hh - l) (m' - l)) := by
  unfold sliceV at hv
  split at hv
  · cases hv
  · rename_i l hh m hbd
    obtain ⟨m', hr, q1, q2, q3⟩ := bounds_rel (isS := isS) (P := P) hc h1 h2 h3 hbd w
    refine ⟨l, hh, m', hr, ?_⟩
    have hlen := hc.1
    rcases hb with ⟨x', rfl, rfl, hx⟩ | ⟨rfl, rfl, rfl, rfl, rfl⟩
    · split at hv
      · rename_i hop
        obtain ⟨ho1, ho2⟩ := hop
        split at hv
        · rename_i hl
          cases hv
          rcases q3 with ⟨r1, _⟩ | ⟨r1, r2, r3, r4⟩
          · omega
          · subst r3
            rcases hc.2 with ⟨s1, s2, s3⟩ | ⟨s, s1, s2, s3⟩
            · omega
            have hcr : ∀ ad2 : Addr, ad2.block = ad.block → ad2.off = ad.off + l * size → CapRel β ad2 (hh - l) cap (m' - l) := fun ad2 e1 e2 =>
              ⟨by omega, .inr ⟨s, s1, by omega, fun hs => by
                obtain ⟨r, d, h4, h5⟩ := s3 hs
                refine ⟨r, d, by rw [e1]; exact h4, ?_⟩
                have hss : s = size := (hsz s s1).resolve_left (by omega)
                subst hss
                have hle : l ≤ m' := by omega
                have hm : m' * s = (m' - l) * s + l * s := by rw [← Nat.add_mul]; congr 1; omega
                rw [e2]; omega⟩⟩
            rcases hl with rfl | hl
            · simp only [Option.map_some, Nat.zero_mul]
              have e1 : ∀ z : Addr, z.add 0 = z := fun z => rfl
              rw [e1, e1]
              have := hcr ad rfl (by simp)
              split <;> exact .sl hx this
            · rw [if_neg (by omega)]
              exact .sl (hx.add _) (hcr _ (add_block _ _) (add_off _ _))
        · cases hv
      · rename_i hop
        cases hv
        rcases q3 with ⟨r1, rfl⟩ | ⟨r1, r2, r3, r4⟩
        · have hcr : ∀ ad2, CapRel β ad2 (hh - l) (m' - l) (m' - l) := fun _ => ⟨by omega, .inl ⟨by omega, rfl, by omega⟩⟩
          by_cases hml : m' = l
          · rw [if_pos hml, if_pos hml]; exact .sl hx (hcr _)
          · rw [if_neg hml, if_neg hml]; exact .sl (hx.add _) (hcr _)
        · exact absurd ⟨r2, r1⟩ hop
    · split at hv
      · rename_i hop
        have := hop.1
        simp [openCap] at this
      · cases hv
        rcases q3 with ⟨r1, rfl⟩ | ⟨r1, r2, r3, r4⟩
        · split <;> exact .sl0 _ _
        · simp [openCap] at r2
theorem op_sliceS (R : HRel P lo n0 β h w) {t e : TypeId} {s : Nat} (ht : P.underlying t = some (.slice e)) (hs : szOf P e = some s) {b : Option Addr} {len cap : Nat} {x' : Value} (hx : VRel β (.slice b len cap) x')
    (hnil : b.isSome ∨ (len = 0 ∧ cap = 0)) (hsz : cap < openCap ∨ cap = openCap ∨ cap = openCap + s) {lo' hi mx lo2 hi2 mx2 : Option Value} (h1 : ORel' β lo' lo2) (h2 : ORel' β hi hi2) (h3 : ORel' β mx mx2) {v : Value} (hv : sliceV s b len cap lo' hi mx = some v) :
    VSim P lo n0 β h w v h ((Instr.sliceAt t x' lo2 hi2 mx2).run P w) := by
  cases hx with
  | sl0 =>
    rcases hnil with hn | ⟨rfl, rfl⟩
    · cases hn
    · obtain ⟨l, hh, m', hr, hv'⟩ := op_sliceV (P := P) (β := β) (size := s) (cap' := 0) (b' := none) capRel_zero (.inr ⟨rfl, rfl, rfl, rfl, rfl⟩) (fun s2 h => by have : openCap = 18446744073709551616 := rfl; omega) h1 h2 h3 hv true w
      refine .quiet R hv' ?_
      simp only [Instr.sliceAt, Sem.run_bind, run_underlying ht, Result.andThen_ok, Instr.slice, hr, szOf_run hs, Sem.run_pure]
  | sl ha hc =>
    obtain ⟨l, hh, m', hr, hv'⟩ := op_sliceV (P := P) (β := β) (size := s) hc (.inl ⟨_, rfl, rfl, ha⟩) (fun s2 h => by omega) h1 h2 h3 hv true w
    refine .quiet R hv' ?_
    simp only [Instr.sliceAt, Sem.run_bind, run_underlying ht, Result.andThen_ok, Instr.slice, hr, szOf_run hs, Sem.run_pure]
theorem op_sliceA (R : HRel P lo n0 β h w) {t e : TypeId} {n s : Nat} (ht : P.underlying t = some (.array n e)) (hs : szOf P e = some s) (hn : n < openCap) {x : Addr} {x' : Value} (hx : VRel β (.pointer (some x)) x')
    {lo' hi mx lo2 hi2 mx2 : Option Value} (h1 : ORel' β lo' lo2) (h2 : ORel' β hi hi2) (h3 : ORel' β mx mx2) {v : Value} (hv : sliceV s (some x) n n lo' hi mx = some v) :
    VSim P lo n0 β h w v h ((Instr.sliceAt t x' lo2 hi2 mx2).run P w) := by
  obtain ⟨a', rfl, ha⟩ := hx.ptr_inv
  obtain ⟨l, hh, m', hr, hv'⟩ := op_sliceV (P := P) (β := β) (size := s) (cap' := n) ⟨hn, .inl ⟨hn, rfl, Nat.le_refl _⟩⟩ (.inl ⟨_, rfl, rfl, ha⟩) (fun s2 h => by omega) h1 h2 h3 hv false w
  refine .quiet R hv' ?_
  simp only [Instr.sliceAt, Sem.run_bind, run_underlying ht, Result.andThen_ok, sure_run, hr, szOf_run hs, Sem.run_pure]
  split <;> simp

theorem op_makeSlice (R : HRel P lo n0 β h w) {t e : TypeId} {i : TypeInfo} {z : Value} (ht : P.underlying t = some (.slice e)) (hi : P.info? e = some i) (hz : i.zero = some z) (hc : z.cells.all closedS = true)
    (hzs : z.cells.size = i.size) (hs0 : i.size ≠ 0) {l c : Int} {x' y' : Value} (hx : VRel β (.int .i64 l) x') (hy : VRel β (.int .i64 c) y')
    (hb : 0 ≤ l ∧ l ≤ c ∧ c.toNat * i.bytes ≤ 2 ^ 40 ∧ c.toNat ≤ 2 ^ 40) :
    VSim P lo n0 β h w (.slice (some ⟨h.size, 0, none⟩) l.toNat c.toNat) (h.push (.cells ((List.range (c.toNat * z.cells.toList.length)).map fun j => z.cells.toList.getD (j % z.cells.toList.length) undef)))
      ((Instr.makeSlice t x' y').run P w) := by
  rw [hx.int_inv, hy.int_inv]
  obtain ⟨b1, b2, b3, b4⟩ := hb
  have hzl : z.cells.toList.length = i.size := by simpa using hzs
  have hco : c.toNat < openCap := by have : openCap = 18446744073709551616 := rfl; omega
  refine .new R (o' := .cells ((Array.range (c.toNat * i.size)).map fun j => (if c.toNat * i.size = 0 then (#[] : Array Value) else z.cells)[j % (if c.toNat * i.size = 0 then (#[] : Array Value) else z.cells).size]!) e (0, 0)) (cells_new ?_)
    (.sl (a' := ⟨w.heap.size, 0, none⟩) arel_new ⟨by omega, .inl ⟨hco, rfl, by omega⟩⟩) ?_
  · rw [Array.toList_map, Array.toList_range, hzl]
    refine .map fun j hj => ?_
    have hne : c.toNat * i.size ≠ 0 := fun h0 => by rw [h0] at hj; simp at hj
    have hlt : j % i.size < z.cells.size := by rw [hzs]; exact Nat.mod_lt _ (Nat.pos_of_ne_zero hs0)
    simp only [hne, if_false]
    rw [hzs, getElem!_pos z.cells (j % i.size) hlt, List.getD_eq_getElem?_getD, List.getElem?_eq_getElem (by simpa using hlt)]
    simp only [Array.getElem_toList, Option.getD_some]
    exact closedS_rel (Array.all_eq_true_iff_forall_mem.1 hc _ (Array.getElem_mem hlt))
  · have w1 : IntKind.i64.wrap l = l := IntWalk.i64_in _ (by omega)
    have w2 : IntKind.i64.wrap c = c := IntWalk.i64_in _ (by omega)
    have hcb : (i.bytes : Int) * c ≤ 2 ^ 40 := by
      have : c = (c.toNat : Int) := by omega
      rw [this, ← Int.natCast_mul, Nat.mul_comm]; exact_mod_cast b3
    have t1 : (decide (c < 0) || decide ((i.bytes : Int) * c > 2 ^ 48)) = false := by simp; omega
    have hsz : szOf P e = some i.size := by simp [szOf, hi]
    have hzv : zeroOf P e = some z := by simp [zeroOf, hi, hz]
    simp only [Instr.makeSlice, Sem.run_bind, run_underlying ht, Result.andThen_ok, asInt, asIntOf, Sem.run_pure, typeInfo, run_program, hi, w1, w2, t1, Bool.false_or]
    rw [if_neg (by simp; omega)]
    simp only [Sem.run_bind, run_askRoom, Result.andThen_ok, szOf_run hsz, Sem.run_ite, zeroOf_run hzv, Sem.run_pure, newRow, run_newObj]
    by_cases h0 : c.toNat * i.size = 0
    · simp only [h0, if_true]
    · simp only [h0, if_false]
end
end Go.RS
