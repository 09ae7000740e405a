/- What the statements share: the hour and the channels that numbers choose. -/
import Derived.Test.YtidnkmbicedmjaaDoorWkd
import Derived.Test.YtidnkmbicedmjaaDoorPlq
import Derived.Test.YtidnkmbicedmjaaDoorLwa
set_option linter.all false
namespace Go.RS.CC
open Go Go.RS
open Go.RS.Enc (enc dec)
/-- An hour and channels, as numbers choose them. -/
structure Pick (b : Book) (n0 n1 H C : Int) (q : List Call) (S : List Served) : Prop where
  h : n0 % b.Hours.length = H
  c : 1 + n1 % 20 = C
  h0 : 0 ≤ H
  h1 : H < b.Hours.length
  hh : H.toNat < b.Hours.length
  c1 : 1 ≤ C
  c2 : C ≤ 20
  ask : askedR b H C = 0
  mem : q ∈ b.Hours
  get : b.Hours[H.toNat]? = some q
  hour : hourOf b H = q
  serve : ServeR b H C = (S, 0)
  eq : serveR b.Each C [] q = S
  sched : Sched b.Each C q S
  len : S.length = q.length
  l12 : q.length ≤ 12
  ok : ∀ s ∈ S, SvOk s
theorem asked_of {b : Book} (ho : okR b = true) {H C : Int} (h0 : 0 ≤ H) (h1 : H < b.Hours.length) (c1 : 1 ≤ C) (c2 : C ≤ 20) : askedR b H C = 0 := by
  have bo := okR_ok ho
  have l1 := bo.h1
  have l2 := bo.h2
  have hm : lenm b.Hours.length = (b.Hours.length : Int) - 1 := wrap64 (by omega) (by omega)
  unfold askedR
  rw [if_pos ho, hm, (wi_iff H 0 _).2 ⟨h0, by omega⟩, (wi_iff C 1 20).2 ⟨c1, c2⟩]
  rfl
theorem pick_of {b : Book} (ho : okR b = true) (n0 n1 : Int) : ∃ H C q S, Pick b n0 n1 H C q S := by
  have bo := okR_ok ho
  have l1 := bo.h1
  have l2 := bo.h2
  have h0 := Int.emod_nonneg n0 (show (b.Hours.length : Int) ≠ 0 by omega)
  have h1 := Int.emod_lt_of_pos n0 (show (0 : Int) < b.Hours.length by omega)
  have c0 := Int.emod_nonneg n1 (show (20 : Int) ≠ 0 by omega)
  have c1 := Int.emod_lt_of_pos n1 (show (0 : Int) < 20 by omega)
  generalize hH : n0 % b.Hours.length = H at *
  generalize hC : 1 + n1 % 20 = C
  have ha := asked_of ho h0 h1 (C := C) (by omega) (by omega)
  obtain ⟨hm, hh, hd⟩ := hourOf_mem h0 h1
  refine ⟨H, C, hourOf b H, serveR b.Each C [] (hourOf b H), hH, hC, h0, h1, hh, by omega, by omega, ha, hm, by rw [hd, List.getElem?_eq_getElem hh], rfl, by rw [ServeR, if_pos ha], rfl, sched_of ho hm, by rw [serveR_len]; simp, bo.hl _ hm, fun s hs => ?_⟩
  rcases serveR_mem hs with hs | ⟨x, hx, o, rfl⟩
  · cases hs
  · exact oneR_ok bo.e1 bo.e2 (bo.hc _ hm x hx).1
theorem Pick.gl {b : Book} {n0 n1 H C : Int} {q : List Call} {S : List Served} (p : Pick b n0 n1 H C q S) : List.drop H.toNat (encL b.Hours) = [enc q] ++ encL (b.Hours.drop (H.toNat + 1)) := by
  have := get_List b.Hours H.toNat p.hh
  have e : b.Hours[H.toNat]'p.hh = q := by
    have := p.get
    rw [List.getElem?_eq_getElem p.hh] at this
    exact Option.some.inj this
  rw [e] at this
  exact this
theorem slV_hi {n i : Nat} (h : i ≤ n) : slV n none (some (PV.int .i64 i)) none = some (0, i, none) := by
  simp [slV, boundV, numV, mOk, h]
end Go.RS.CC

