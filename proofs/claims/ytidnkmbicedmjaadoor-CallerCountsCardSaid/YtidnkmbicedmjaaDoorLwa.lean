/- Walks: the laws (1). -/
import Derived.Test.YtidnkmbicedmjaaDoorWkc
set_option linter.all false
namespace Go.RS.CC
open Go Go.RS
open Go.RS.Enc (enc dec)
variable {E : VEnv}
/-- The look at the examples is a call whose answer is known. -/
def WorksOk (E : VEnv) : Prop := VP E 24 [] (.bool true)
def worksS (args : List PV) : Option PV := if args.isEmpty then some (.bool true) else none
@[simp] theorem worksS_nil : worksS [] = some (.bool true) := rfl
theorem w_works (hW : WorksOk E) : Ok E 24 worksS := by
  intro args r hr
  unfold worksS at hr
  split at hr
  · rename_i h
    rw [List.isEmpty_iff] at h
    subst h
    cases hr
    exact hW
  · cases hr
theorem l_Serves (hE : E.env.fn = G) (hW : WorksOk E) (b : Book) (n0 n1 : Int) : VP E 3 [enc b, .agg [.int .i64 n0, .int .i64 n1]] (.bool true) := by
  have good := goodV_cons (w_ServeP hE) (goodV_cons (w_ServeR hE) (goodV_cons (w_SameServed hE) (goodV_cons (w_CheckP hE) (goodV_cons (w_CheckR hE) (goodV_cons (w_LostP hE) (goodV_cons (w_LostR hE) (goodV_cons (w_Alike hE) (goodV_cons (w_works hW) goodV_nil))))))))
  refine VP.run (A := F3) (good) [] (by rw [hE]; rfl) (by simp [F3]) ?_; unfold F3; simp (implicitDefEqProofs := false) [enc_list]
  generalize hR : ServeR b n0 n1 = R
  obtain ⟨S, e⟩ := R
  generalize hL : LostR b n0 n1 = L
  obtain ⟨T, f⟩ := L
  simp (implicitDefEqProofs := false) [enc_list, hR, hL]
end Go.RS.CC

/- Walks: the laws (2). -/
namespace Go.RS.CC
open Go Go.RS
open Go.RS.Enc (enc dec)
variable {E : VEnv}
theorem l_Counts (hE : E.env.fn = G) (hW : WorksOk E) (b : Book) (n0 n1 n2 : Int) : VP E 4 [enc b, .agg [.int .i64 n0, .int .i64 n1, .int .i64 n2]] (.bool true) := by
  have wF : Ok E 25 (s1 fun b => some (FewestR b)) := by have := w_FewestP hE; simp only [Fewest_same] at this; exact this
  have wB : Ok E 27 (s3 fun b h c => some (BusyR b h c)) := by have := w_BusyP hE; simp only [Busy_same] at this; exact this
  have good := goodV_cons wF (goodV_cons (w_FewestR hE) (goodV_cons wB (goodV_cons (w_BusyR hE) (goodV_cons (w_HeardP hE) (goodV_cons (w_HeardR hE) (goodV_cons (w_works hW) goodV_nil))))))
  refine VP.run (A := F4) (good) [] (by rw [hE]; rfl) (by simp [F4]) ?_; unfold F4; simp (implicitDefEqProofs := false) [enc_list]
  generalize hF : FewestR b = F
  obtain ⟨F1, F2⟩ := F
  generalize hB : BusyR b n0 n1 = B
  obtain ⟨B1, B2, B3⟩ := B
  generalize hH : HeardR b n0 n1 n2 = H
  obtain ⟨⟨H1, H2⟩, H3⟩ := H
  simp (implicitDefEqProofs := false) [enc_list, hF, hB, hH, spliceV]
end Go.RS.CC

