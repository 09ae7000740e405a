/- Walks: the law DialApart. -/
import Derived.Test.YtenmjloiadkgjaaDoorDla
set_option linter.all false
namespace Go.RS.DC
open Go Go.RS
open Go.RS.Enc (enc dec)
variable {E : VEnv}
set_option maxRecDepth 20000 in
set_option maxHeartbeats 1600000 in
theorem l_Apart (hE : E.env.fn = G) (hgl : E.gl 0 = some [f130v, f131v]) (c : Cal) (r0 r1 r2 : Reading) : VP E 10 [enc c, .agg (El.cells r0 ++ El.cells r1 ++ El.cells r2)] (.bool true) := by
  have good := goodV_cons (w_ApartP hE hgl) (goodV_cons (w_TickP hE hgl) (goodV_cons (w_works hE hgl) goodV_nil))
  cases ho : okC c
  · have h1 : ∀ a b, ApartR c a b = (0, 10) := fun a b => by simp [ApartR, TickR, ho]
    have h2 : ∀ a, TickR c a = (0, 10) := fun a => by simp [TickR, ho]
    refine VP.run (A := F10) (good) [] (by rw [hE]; rfl) (by simp [F10]) ?_; unfold F10; simp (implicitDefEqProofs := false) [enc_list, h1, h2, spliceV]
  · rcases tick_cases ho r0 with ⟨a1, a2, a3⟩ | a1
    · rcases tick_cases ho r1 with ⟨b1, b2, b3⟩ | b1
      · have e1 : ApartR c r0 r1 = (tickR c r1 - tickR c r0, 0) := by simp [ApartR, a1, b1]
        have e2 : ApartR c r1 r0 = (tickR c r0 - tickR c r1, 0) := by simp [ApartR, a1, b1]
        generalize tickR c r0 = x at *
        generalize tickR c r1 = y at *
        have w1 : IntKind.i64.wrap (y - x) = y - x := wrap64 (by omega) (by omega)
        have w2 : IntKind.i64.wrap (0 - (y - x)) = x - y := by rw [show 0 - (y - x) = x - y by omega]; exact wrap64 (by omega) (by omega)
        have w2' : IntKind.i64.wrap (-(y - x)) = x - y := by rw [show -(y - x) = x - y by omega]; exact wrap64 (by omega) (by omega)
        have w2'' : IntKind.i64.wrap (x - y) = x - y := wrap64 (by omega) (by omega)
        rcases tick_cases ho r2 with ⟨c1, c2, c3⟩ | c1
        · have e3 : ApartR c r1 r2 = (tickR c r2 - y, 0) := by simp [ApartR, b1, c1]
          have e4 : ApartR c r0 r2 = (tickR c r2 - x, 0) := by simp [ApartR, a1, c1]
          generalize tickR c r2 = z at *
          have w3 : IntKind.i64.wrap (y - x + (z - y)) = z - x := by rw [show y - x + (z - y) = z - x by omega]; exact wrap64 (by omega) (by omega)
          refine VP.run (A := F10) (good) [] (by rw [hE]; rfl) (by simp [F10]) ?_; unfold F10; simp (implicitDefEqProofs := false) [enc_list, a1, b1, c1, e1, e2, e3, e4, w1, w2, w2', w2'', w3, spliceV]
        · have e3 : ApartR c r1 r2 = (0, 4) := by simp [ApartR, b1, c1]
          have e4 : ApartR c r0 r2 = (0, 4) := by simp [ApartR, a1, c1]
          refine VP.run (A := F10) (good) [] (by rw [hE]; rfl) (by simp [F10]) ?_; unfold F10; simp (implicitDefEqProofs := false) [enc_list, a1, b1, c1, e1, e2, e3, e4, w1, w2, w2', w2'', spliceV]
      · have e1 : ApartR c r0 r1 = (0, 4) := by simp [ApartR, a1, b1]
        have e2 : ApartR c r1 r0 = (0, 4) := by simp [ApartR, a1, b1]
        generalize hP : ApartR c r1 r2 = P
        obtain ⟨p1, p2⟩ := P
        generalize hQ : ApartR c r0 r2 = Q
        obtain ⟨q1, q2⟩ := Q
        refine VP.run (A := F10) (good) [] (by rw [hE]; rfl) (by simp [F10]) ?_; unfold F10; simp (implicitDefEqProofs := false) [enc_list, a1, b1, e1, e2, hP, hQ, spliceV]
    · rcases tick_cases ho r1 with ⟨b1, b2, b3⟩ | b1
      · have e1 : ApartR c r0 r1 = (0, 4) := by simp [ApartR, a1, b1]
        have e2 : ApartR c r1 r0 = (0, 4) := by simp [ApartR, a1, b1]
        generalize hP : ApartR c r1 r2 = P
        obtain ⟨p1, p2⟩ := P
        generalize hQ : ApartR c r0 r2 = Q
        obtain ⟨q1, q2⟩ := Q
        refine VP.run (A := F10) (good) [] (by rw [hE]; rfl) (by simp [F10]) ?_; unfold F10; simp (implicitDefEqProofs := false) [enc_list, a1, b1, e1, e2, hP, hQ, spliceV]
      · have e1 : ApartR c r0 r1 = (0, 4) := by simp [ApartR, a1, b1]
        have e2 : ApartR c r1 r0 = (0, 4) := by simp [ApartR, a1, b1]
        generalize hP : ApartR c r1 r2 = P
        obtain ⟨p1, p2⟩ := P
        generalize hQ : ApartR c r0 r2 = Q
        obtain ⟨q1, q2⟩ := Q
        refine VP.run (A := F10) (good) [] (by rw [hE]; rfl) (by simp [F10]) ?_; unfold F10; simp (implicitDefEqProofs := false) [enc_list, a1, b1, e1, e2, hP, hQ, spliceV]
end Go.RS.DC

