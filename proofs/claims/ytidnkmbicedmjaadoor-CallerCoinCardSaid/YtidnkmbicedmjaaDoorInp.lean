/- Inputs: books and numbers, read from a real heap. -/
import Derived.Test.YtidnkmbicedmjaaDoorWka
import Derived.Test.YtidnkmbicedmjaaDoorCL
import Derived.Test.YtidnkmbicedmjaaDoorPvc
import Derived.KernelRfl
set_option linter.all false
namespace Go.RS.CC
open Go Go.RS Go.Proofs Go.ChangeShapes Go.WideShapes
open Go.RS.Enc (enc dec)
section
variable {H : Type} {en : TypeId × Value → H} {W : World} {base : Nat} {held : Bool}
theorem len4 {α : Type} {l : List α} (h : l.length = 4) : ∃ a b c d, l = [a, b, c, d] := by
  match l, h with | [a, b, c, d], _ => exact ⟨a, b, c, d, rfl⟩
theorem len6 {α : Type} {l : List α} (h : l.length = 6) : ∃ a b c d e f, l = [a, b, c, d, e, f] := by
  match l, h with | [a, b, c, d, e, f], _ => exact ⟨a, b, c, d, e, f, rfl⟩
theorem cells3 : Tryd.prog.cellsOf 3 = 1 := by kernel_rfl
theorem cells22 : Tryd.prog.cellsOf 22 = 1 := by kernel_rfl
theorem cells23 : Tryd.prog.cellsOf 23 = 1 := by kernel_rfl
theorem cells56 : Tryd.prog.cellsOf 56 = 1 := by kernel_rfl
theorem cells58 : Tryd.prog.cellsOf 58 = 4 := by kernel_rfl
theorem cells25 : Tryd.prog.cellsOf 25 = 6 := by kernel_rfl
theorem rd3 : Rd en Tryd.prog W base held 3 Int := .int Tryd.underlying3 cells3
theorem rd22 : Rd en Tryd.prog W base held 22 (List Int) := .list Tryd.underlying22 cells22 (by decide) rd3
theorem rd58 : Rd en Tryd.prog W base held 58 Call := by
  refine ⟨cells58, fun fuel cs x hx h β B => ?_⟩
  obtain ⟨xs, n, _, rfl, hl, hlen, hf⟩ := DataW.trod_struct Tryd.underlying58 hx
  rw [cells58] at hl
  obtain ⟨c0, c1, c2, c3, rfl⟩ := len4 hl
  obtain ⟨x0, x1, x2, x3, rfl⟩ := len4 hlen
  · clear hx hlen hl
    have h0 := hf 0 _ rfl
    have h1 := hf 1 _ rfl
    have h2 := hf 2 _ rfl
    have h3 := hf 3 _ rfl
    simp [cells3] at h0 h1 h2 h3
    obtain ⟨n0, e0, _⟩ := DataW.trod_int Tryd.underlying3 h0
    obtain ⟨n1, e1, _⟩ := DataW.trod_int Tryd.underlying3 h1
    obtain ⟨n2, e2, _⟩ := DataW.trod_int Tryd.underlying3 h2
    obtain ⟨n3, e3, _⟩ := DataW.trod_int Tryd.underlying3 h3
    simp at e0 e1 e2 e3
    subst e0 e1 e2 e3
    exact ⟨⟨n0, n1, n2, n3⟩, h, β, _, B, .refl h β, (Got.one (.int _ _) (.int _ _)).append ((Got.one (.int _ _) (.int _ _)).append ((Got.one (.int _ _) (.int _ _)).append (Got.one (.int _ _) (.int _ _))))⟩
theorem rd56 : Rd en Tryd.prog W base held 56 (List Call) := .list Tryd.underlying56 cells56 (by decide) rd58
theorem rd23 : Rd en Tryd.prog W base held 23 (List (List Call)) := .list Tryd.underlying23 cells23 (by decide) rd56
theorem rd25 : Rd en Tryd.prog W base held 25 Book := by
  refine ⟨cells25, fun fuel cs x hx h β B => ?_⟩
  obtain ⟨xs, n, _, rfl, hl, hlen, hf⟩ := DataW.trod_struct Tryd.underlying25 hx
  rw [cells25] at hl
  obtain ⟨c0, c1, c2, c3, c4, c5, rfl⟩ := len6 hl
  obtain ⟨x0, x1, x2, x3, x4, x5, rfl⟩ := len6 hlen
  · clear hx hlen hl
    have h0 := hf 0 _ rfl
    have h1 := hf 1 _ rfl
    have h2 := hf 2 _ rfl
    have h3 := hf 3 _ rfl
    have h4 := hf 4 _ rfl
    have h5 := hf 5 _ rfl
    simp [cells3, cells22, cells23] at h0 h1 h2 h3 h4 h5
    obtain ⟨n0, e0, _⟩ := DataW.trod_int Tryd.underlying3 h0
    obtain ⟨n1, e1, _⟩ := DataW.trod_int Tryd.underlying3 h1
    obtain ⟨n2, e2, _⟩ := DataW.trod_int Tryd.underlying3 h2
    obtain ⟨n3, e3, _⟩ := DataW.trod_int Tryd.underlying3 h3
    simp at e0 e1 e2 e3
    subst e0 e1 e2 e3
    obtain ⟨a4, h', β', v4, B4, o4, g4⟩ := rd22.2 n _ _ h4 h β B
    obtain ⟨a5, h2, β2, v5, B5, o5, g5⟩ := rd23.2 n _ _ h5 h' β' B4
    exact ⟨⟨n0, n1, n2, n3, a4, a5⟩, h2, β2, _, B5, o4.trans o5, (Got.one (.int _ _) (.int _ _)).append ((Got.one (.int _ _) (.int _ _)).append ((Got.one (.int _ _) (.int _ _)).append ((Got.one (.int _ _) (.int _ _)).append ((g4.up o5).append g5))))⟩
/-- Arrays of so many numbers. -/
theorem rdInts {t n : Nat} (ht : Tryd.prog.underlying t = some (.array n 3)) (hc : Tryd.prog.cellsOf t = n) {fuel : Nat} {cs : List Value} {x : DataW H × List MemPlace} (hx : DataW.trod en Tryd.prog W base (fun _ => true) held fuel t cs = some x) : ∃ l : List Int, l.length = n ∧ cs = l.map (Value.int .i64) := by
  obtain ⟨xs, m, _, rfl, hl, hlen, hf⟩ := DataW.trod_array ht hx
  rw [hc] at hl
  have key : ∀ k, k ≤ n → ∃ l : List Int, l.length = k ∧ cs.take k = l.map (Value.int .i64) := by
    intro k
    induction k with
    | zero => intro _; exact ⟨[], rfl, rfl⟩
    | succ k ih =>
      intro hk
      obtain ⟨l, h1, h2⟩ := ih (by omega)
      have h3 := hf k (by omega)
      rw [cells3, Nat.mul_one, List.getElem?_eq_getElem (by omega)] at h3
      obtain ⟨q, e, _⟩ := DataW.trod_int Tryd.underlying3 h3
      have hlt : k < cs.length := by omega
      rw [List.drop_eq_getElem_cons hlt, List.take_succ_cons] at e
      injection e with e _
      refine ⟨l ++ [q], by simp [h1], ?_⟩
      rw [List.take_succ_eq_append_getElem hlt, h2, e]; simp
  obtain ⟨l, h1, h2⟩ := key n (Nat.le_refl _)
  rw [List.take_of_length_le (by omega)] at h2
  exact ⟨l, h1, h2⟩
theorem got_ints {h : AH} {β : Bij} : ∀ l : List Int, Got h β (l.map (Value.int .i64)) (l.map (Value.int .i64)) (l.map (PV.int .i64))
  | [] => .nil h β
  | x :: l => (Got.one (.int _ _) (.int _ _)).append (got_ints l)
end
end Go.RS.CC

