/- Walks: the law VoiceKnown: single books, texts and plans. -/
import Derived.Test.YtcbkaiakncbcbaaDoorVla
set_option linter.all false
namespace Go.RS.DC
open Go Go.RS
open Go.RS.Enc (enc dec)
variable {E : VEnv}
structure BadB (b : Book) : Prop where
  f : ∀ t, FewestVR b t = ([], 50)
  n : ∀ t, NeededR b t = ([], 50)
  i : ∀ t f p l, IsPlanR b t f p l = (false, 50)
  p : ∀ t f p, PlanPR b t f p = ([], 50)
  l : ∀ t f p, LatestPR b t f p = (0, 50)
  d : ∀ c t e m, DayP b c t e m = ([], 50)
  c : checkB b = 50
theorem badB_of {b : Book} (h : okB b = false) : BadB b := by
  have a : ∀ t f p, askedV b t f p = 50 := fun t f p => by simp [askedV, h]
  have d : ∀ c t e m, dayOk b c t e m = 50 := fun c t e m => by simp [dayOk, h]
  exact ⟨fun t => by simp [FewestVR, h], fun t => by simp [NeededR, h], fun t f p l => by simp [IsPlanR, a], fun t f p => by simp [PlanPR, a], fun t f p => by simp [LatestPR, a], fun c t e m => by simp [DayP, d], by simp [checkB, h]⟩
theorem badB0 : BadB ⟨[], [], ⟨0, 0⟩, ⟨0, 0⟩⟩ := badB_of (by decide +kernel)
theorem badB1 : BadB ⟨[10, 501], [⟨[1], 0, 2, 5⟩, ⟨[102], 1, 4, 8⟩, ⟨[1, 102], 1, 0, 12⟩, ⟨[205], 0, 7, 6⟩, ⟨[102, 205], 1, 9, 14⟩], ⟨1, 6⟩, ⟨2, 20⟩⟩ := badB_of (by decide +kernel)
theorem badB2 : BadB ⟨[10], [⟨[1], 0, 2, 5⟩, ⟨[102], 1, 4, 8⟩, ⟨[1, 102], 1, 0, 12⟩, ⟨[205], 0, 7, 6⟩, ⟨[102, 205], 1, 9, 14⟩], ⟨1, 6⟩, ⟨2, 20⟩⟩ := badB_of (by decide +kernel)
theorem badB3 : BadB ⟨[10, 16], [], ⟨1, 6⟩, ⟨2, 20⟩⟩ := badB_of (by decide +kernel)
theorem badB4 : BadB ⟨[10, 16], [⟨[], 0, 2, 5⟩, ⟨[102], 1, 4, 8⟩, ⟨[1, 102], 1, 0, 12⟩, ⟨[205], 0, 7, 6⟩, ⟨[102, 205], 1, 9, 14⟩], ⟨1, 6⟩, ⟨2, 20⟩⟩ := badB_of (by decide +kernel)
theorem badB5 : BadB ⟨[10, 16], [⟨[300], 0, 2, 5⟩, ⟨[102], 1, 4, 8⟩, ⟨[1, 102], 1, 0, 12⟩, ⟨[205], 0, 7, 6⟩, ⟨[102, 205], 1, 9, 14⟩], ⟨1, 6⟩, ⟨2, 20⟩⟩ := badB_of (by decide +kernel)
theorem badB6 : BadB ⟨[10, 16], [⟨[1], 0, 10, 5⟩, ⟨[102], 1, 4, 8⟩, ⟨[1, 102], 1, 0, 12⟩, ⟨[205], 0, 7, 6⟩, ⟨[102, 205], 1, 9, 14⟩], ⟨1, 6⟩, ⟨2, 20⟩⟩ := badB_of (by decide +kernel)
theorem badB7 : BadB ⟨[10, 16], [⟨[1], 0, 2, 11⟩, ⟨[102], 1, 4, 8⟩, ⟨[1, 102], 1, 0, 12⟩, ⟨[205], 0, 7, 6⟩, ⟨[102, 205], 1, 9, 14⟩], ⟨1, 6⟩, ⟨2, 20⟩⟩ := badB_of (by decide +kernel)
theorem badB8 : BadB ⟨[10, 16], [⟨[1], 0, 2, 0⟩, ⟨[102], 1, 4, 8⟩, ⟨[1, 102], 1, 0, 12⟩, ⟨[205], 0, 7, 6⟩, ⟨[102, 205], 1, 9, 14⟩], ⟨1, 6⟩, ⟨2, 20⟩⟩ := badB_of (by decide +kernel)
theorem badB9 : BadB ⟨[10, 16], [⟨[1], 0, 2, 5⟩, ⟨[102], 1, 4, 8⟩, ⟨[1, 102], 1, 0, 12⟩, ⟨[205], 0, 7, 6⟩, ⟨[102, 205], 1, 9, 14⟩], ⟨0, 201⟩, ⟨2, 20⟩⟩ := badB_of (by decide +kernel)
theorem badB10 : BadB ⟨[10, 16], [⟨[1], 0, 2, 5⟩, ⟨[102], 1, 4, 8⟩, ⟨[1, 102], 1, 0, 12⟩, ⟨[205], 0, 7, 6⟩, ⟨[102, 205], 1, 9, 14⟩], ⟨1, 6⟩, ⟨2, 501⟩⟩ := badB_of (by decide +kernel)
theorem badB11 : BadB ⟨[10, 16], [⟨[], 0, 0, 0⟩, ⟨[], 0, 0, 0⟩, ⟨[], 0, 0, 0⟩, ⟨[], 0, 0, 0⟩, ⟨[], 0, 0, 0⟩, ⟨[], 0, 0, 0⟩, ⟨[], 0, 0, 0⟩, ⟨[], 0, 0, 0⟩, ⟨[], 0, 0, 0⟩, ⟨[], 0, 0, 0⟩, ⟨[], 0, 0, 0⟩], ⟨1, 6⟩, ⟨2, 20⟩⟩ := badB_of (by decide +kernel)
abbrev vecP : List PV := [.lst false 1 1 [.int .i64 1], .int .i64 0, .int .i64 2, .int .i64 5, .lst false 1 1 [.int .i64 102], .int .i64 1, .int .i64 4, .int .i64 8, .lst false 2 1 [.int .i64 1, .int .i64 102], .int .i64 1, .int .i64 0, .int .i64 12, .lst false 1 1 [.int .i64 205], .int .i64 0, .int .i64 7, .int .i64 6, .lst false 2 1 [.int .i64 102, .int .i64 205], .int .i64 1, .int .i64 9, .int .i64 14]
abbrev bkV (t : Nat) : List PV := [.lst true 2 1 [.int .i64 10, .int .i64 16], .sl t 20 0 5 5 4, .int .i64 1, .int .i64 6, .int .i64 2, .int .i64 20]
theorem vc_book (hE : E.env.fn = G) {g : Bool} {M : VM} {K : PV → VM → Prop} (hg : g = false) (hk : K (.agg (bkV (M.length + 1))) (M ++ [.cells (bkV (M.length + 1)), .vec vecP])) : VC E g (.func 46 [] []) [] M K := by
  subst hg
  refine VC.func (A := F46) (by rw [hE]; rfl) (by simp [F46]) ?_
  unfold F46
  refine VW.run (goodV_cons (v_piece hE) (goodV_cons (w_To hE) goodV_nil)) [12] ?_
  simp (implicitDefEqProofs := false) [enc_list, spliceV, di1, di2, encL]
  exact hk
theorem fzP {M : VM} {t : Nat} {cs : List PV} (n : Nat) (h : M[t]? = some (.vec cs)) (hl : cs.length = n * 4) (h0 : 0 < n) (hn : n ≤ 100) : fzSl M t (n * 4) 0 n n 4 = .lst true n 4 cs := by
  have hc : n ≤ openCap := Nat.le_trans hn (by decide)
  unfold fzSl
  rw [if_neg (by omega), h]
  simp only
  rw [if_pos ⟨hl, by omega, .inl hc⟩, List.drop_zero, ← hl, List.take_length]
  simp
abbrev cB0 : List PV := [.nilS, .nilS, .int .i64 0, .int .i64 0, .int .i64 0, .int .i64 0, .lst true 2 1 [.int .i64 10, .int .i64 16], .sl 1 20 0 5 5 4, .int .i64 1, .int .i64 6, .int .i64 2, .int .i64 20, .lst true 2 1 [.int .i64 10, .int .i64 16], .sl 3 20 0 5 5 4, .int .i64 1, .int .i64 6, .int .i64 2, .int .i64 20, .lst true 2 1 [.int .i64 10, .int .i64 16], .sl 5 20 0 5 5 4, .int .i64 1, .int .i64 6, .int .i64 2, .int .i64 20, .lst true 2 1 [.int .i64 10, .int .i64 16], .sl 7 20 0 5 5 4, .int .i64 1, .int .i64 6, .int .i64 2, .int .i64 20, .lst true 2 1 [.int .i64 10, .int .i64 16], .sl 9 20 0 5 5 4, .int .i64 1, .int .i64 6, .int .i64 2, .int .i64 20, .lst true 2 1 [.int .i64 10, .int .i64 16], .sl 11 20 0 5 5 4, .int .i64 1, .int .i64 6, .int .i64 2, .int .i64 20, .lst true 2 1 [.int .i64 10, .int .i64 16], .sl 13 20 0 5 5 4, .int .i64 1, .int .i64 6, .int .i64 2, .int .i64 20, .lst true 2 1 [.int .i64 10, .int .i64 16], .sl 15 20 0 5 5 4, .int .i64 1, .int .i64 6, .int .i64 2, .int .i64 20, .lst true 2 1 [.int .i64 10, .int .i64 16], .sl 17 20 0 5 5 4, .int .i64 1, .int .i64 6, .int .i64 2, .int .i64 20, .lst true 2 1 [.int .i64 10, .int .i64 16], .sl 19 20 0 5 5 4, .int .i64 1, .int .i64 6, .int .i64 2, .int .i64 20, .lst true 2 1 [.int .i64 10, .int .i64 16], .sl 21 20 0 5 5 4, .int .i64 1, .int .i64 6, .int .i64 2, .int .i64 20]
abbrev cB1 : List PV := [.nilS, .nilS, .int .i64 0, .int .i64 0, .int .i64 0, .int .i64 0, .lst true 2 1 [.int .i64 10, .int .i64 501], .sl 1 20 0 5 5 4, .int .i64 1, .int .i64 6, .int .i64 2, .int .i64 20, .lst true 1 1 [.int .i64 10], .sl 3 20 0 5 5 4, .int .i64 1, .int .i64 6, .int .i64 2, .int .i64 20, .lst true 2 1 [.int .i64 10, .int .i64 16], .nilS, .int .i64 1, .int .i64 6, .int .i64 2, .int .i64 20, .lst true 2 1 [.int .i64 10, .int .i64 16], .sl 7 20 0 5 5 4, .int .i64 1, .int .i64 6, .int .i64 2, .int .i64 20, .lst true 2 1 [.int .i64 10, .int .i64 16], .sl 9 20 0 5 5 4, .int .i64 1, .int .i64 6, .int .i64 2, .int .i64 20, .lst true 2 1 [.int .i64 10, .int .i64 16], .sl 11 20 0 5 5 4, .int .i64 1, .int .i64 6, .int .i64 2, .int .i64 20, .lst true 2 1 [.int .i64 10, .int .i64 16], .sl 13 20 0 5 5 4, .int .i64 1, .int .i64 6, .int .i64 2, .int .i64 20, .lst true 2 1 [.int .i64 10, .int .i64 16], .sl 15 20 0 5 5 4, .int .i64 1, .int .i64 6, .int .i64 2, .int .i64 20, .lst true 2 1 [.int .i64 10, .int .i64 16], .sl 17 20 0 5 5 4, .int .i64 0, .int .i64 201, .int .i64 2, .int .i64 20, .lst true 2 1 [.int .i64 10, .int .i64 16], .sl 19 20 0 5 5 4, .int .i64 1, .int .i64 6, .int .i64 2, .int .i64 501, .lst true 2 1 [.int .i64 10, .int .i64 16], .sl 23 44 0 11 11 4, .int .i64 1, .int .i64 6, .int .i64 2, .int .i64 20]
abbrev vB0 : List PV := [.lst false 1 1 [.int .i64 1], .int .i64 0, .int .i64 2, .int .i64 5, .lst false 1 1 [.int .i64 102], .int .i64 1, .int .i64 4, .int .i64 8, .lst false 2 1 [.int .i64 1, .int .i64 102], .int .i64 1, .int .i64 0, .int .i64 12, .lst false 1 1 [.int .i64 205], .int .i64 0, .int .i64 7, .int .i64 6, .lst false 2 1 [.int .i64 102, .int .i64 205], .int .i64 1, .int .i64 9, .int .i64 14]
abbrev vB1 : List PV := [.lst false 1 1 [.int .i64 1], .int .i64 0, .int .i64 2, .int .i64 5, .lst false 1 1 [.int .i64 102], .int .i64 1, .int .i64 4, .int .i64 8, .lst false 2 1 [.int .i64 1, .int .i64 102], .int .i64 1, .int .i64 0, .int .i64 12, .lst false 1 1 [.int .i64 205], .int .i64 0, .int .i64 7, .int .i64 6, .lst false 2 1 [.int .i64 102, .int .i64 205], .int .i64 1, .int .i64 9, .int .i64 14]
abbrev vB2 : List PV := [.lst false 1 1 [.int .i64 1], .int .i64 0, .int .i64 2, .int .i64 5, .lst false 1 1 [.int .i64 102], .int .i64 1, .int .i64 4, .int .i64 8, .lst false 2 1 [.int .i64 1, .int .i64 102], .int .i64 1, .int .i64 0, .int .i64 12, .lst false 1 1 [.int .i64 205], .int .i64 0, .int .i64 7, .int .i64 6, .lst false 2 1 [.int .i64 102, .int .i64 205], .int .i64 1, .int .i64 9, .int .i64 14]
abbrev vB3 : List PV := [.nilS, .int .i64 0, .int .i64 2, .int .i64 5, .lst false 1 1 [.int .i64 102], .int .i64 1, .int .i64 4, .int .i64 8, .lst false 2 1 [.int .i64 1, .int .i64 102], .int .i64 1, .int .i64 0, .int .i64 12, .lst false 1 1 [.int .i64 205], .int .i64 0, .int .i64 7, .int .i64 6, .lst false 2 1 [.int .i64 102, .int .i64 205], .int .i64 1, .int .i64 9, .int .i64 14]
abbrev vB4 : List PV := [.lst true 1 1 [.int .i64 300], .int .i64 0, .int .i64 2, .int .i64 5, .lst false 1 1 [.int .i64 102], .int .i64 1, .int .i64 4, .int .i64 8, .lst false 2 1 [.int .i64 1, .int .i64 102], .int .i64 1, .int .i64 0, .int .i64 12, .lst false 1 1 [.int .i64 205], .int .i64 0, .int .i64 7, .int .i64 6, .lst false 2 1 [.int .i64 102, .int .i64 205], .int .i64 1, .int .i64 9, .int .i64 14]
abbrev vB5 : List PV := [.lst false 1 1 [.int .i64 1], .int .i64 0, .int .i64 10, .int .i64 5, .lst false 1 1 [.int .i64 102], .int .i64 1, .int .i64 4, .int .i64 8, .lst false 2 1 [.int .i64 1, .int .i64 102], .int .i64 1, .int .i64 0, .int .i64 12, .lst false 1 1 [.int .i64 205], .int .i64 0, .int .i64 7, .int .i64 6, .lst false 2 1 [.int .i64 102, .int .i64 205], .int .i64 1, .int .i64 9, .int .i64 14]
abbrev vB6 : List PV := [.lst false 1 1 [.int .i64 1], .int .i64 0, .int .i64 2, .int .i64 11, .lst false 1 1 [.int .i64 102], .int .i64 1, .int .i64 4, .int .i64 8, .lst false 2 1 [.int .i64 1, .int .i64 102], .int .i64 1, .int .i64 0, .int .i64 12, .lst false 1 1 [.int .i64 205], .int .i64 0, .int .i64 7, .int .i64 6, .lst false 2 1 [.int .i64 102, .int .i64 205], .int .i64 1, .int .i64 9, .int .i64 14]
abbrev vB7 : List PV := [.lst false 1 1 [.int .i64 1], .int .i64 0, .int .i64 2, .int .i64 0, .lst false 1 1 [.int .i64 102], .int .i64 1, .int .i64 4, .int .i64 8, .lst false 2 1 [.int .i64 1, .int .i64 102], .int .i64 1, .int .i64 0, .int .i64 12, .lst false 1 1 [.int .i64 205], .int .i64 0, .int .i64 7, .int .i64 6, .lst false 2 1 [.int .i64 102, .int .i64 205], .int .i64 1, .int .i64 9, .int .i64 14]
abbrev vB8 : List PV := [.lst false 1 1 [.int .i64 1], .int .i64 0, .int .i64 2, .int .i64 5, .lst false 1 1 [.int .i64 102], .int .i64 1, .int .i64 4, .int .i64 8, .lst false 2 1 [.int .i64 1, .int .i64 102], .int .i64 1, .int .i64 0, .int .i64 12, .lst false 1 1 [.int .i64 205], .int .i64 0, .int .i64 7, .int .i64 6, .lst false 2 1 [.int .i64 102, .int .i64 205], .int .i64 1, .int .i64 9, .int .i64 14]
abbrev vB9 : List PV := [.lst false 1 1 [.int .i64 1], .int .i64 0, .int .i64 2, .int .i64 5, .lst false 1 1 [.int .i64 102], .int .i64 1, .int .i64 4, .int .i64 8, .lst false 2 1 [.int .i64 1, .int .i64 102], .int .i64 1, .int .i64 0, .int .i64 12, .lst false 1 1 [.int .i64 205], .int .i64 0, .int .i64 7, .int .i64 6, .lst false 2 1 [.int .i64 102, .int .i64 205], .int .i64 1, .int .i64 9, .int .i64 14]
abbrev vB10 : List PV := [.lst false 1 1 [.int .i64 1], .int .i64 0, .int .i64 2, .int .i64 5, .lst false 1 1 [.int .i64 102], .int .i64 1, .int .i64 4, .int .i64 8, .lst false 2 1 [.int .i64 1, .int .i64 102], .int .i64 1, .int .i64 0, .int .i64 12, .lst false 1 1 [.int .i64 205], .int .i64 0, .int .i64 7, .int .i64 6, .lst false 2 1 [.int .i64 102, .int .i64 205], .int .i64 1, .int .i64 9, .int .i64 14]
abbrev vB11 : List PV := [.nilS, .int .i64 0, .int .i64 0, .int .i64 0, .nilS, .int .i64 0, .int .i64 0, .int .i64 0, .nilS, .int .i64 0, .int .i64 0, .int .i64 0, .nilS, .int .i64 0, .int .i64 0, .int .i64 0, .nilS, .int .i64 0, .int .i64 0, .int .i64 0, .nilS, .int .i64 0, .int .i64 0, .int .i64 0, .nilS, .int .i64 0, .int .i64 0, .int .i64 0, .nilS, .int .i64 0, .int .i64 0, .int .i64 0, .nilS, .int .i64 0, .int .i64 0, .int .i64 0, .nilS, .int .i64 0, .int .i64 0, .int .i64 0, .nilS, .int .i64 0, .int .i64 0, .int .i64 0]
abbrev cBF : List PV := [.nilS, .nilS, .int .i64 0, .int .i64 0, .int .i64 0, .int .i64 0, .lst true 2 1 [.int .i64 10, .int .i64 501], .lst true 5 4 [.lst false 1 1 [.int .i64 1], .int .i64 0, .int .i64 2, .int .i64 5, .lst false 1 1 [.int .i64 102], .int .i64 1, .int .i64 4, .int .i64 8, .lst false 2 1 [.int .i64 1, .int .i64 102], .int .i64 1, .int .i64 0, .int .i64 12, .lst false 1 1 [.int .i64 205], .int .i64 0, .int .i64 7, .int .i64 6, .lst false 2 1 [.int .i64 102, .int .i64 205], .int .i64 1, .int .i64 9, .int .i64 14], .int .i64 1, .int .i64 6, .int .i64 2, .int .i64 20, .lst true 1 1 [.int .i64 10], .lst true 5 4 [.lst false 1 1 [.int .i64 1], .int .i64 0, .int .i64 2, .int .i64 5, .lst false 1 1 [.int .i64 102], .int .i64 1, .int .i64 4, .int .i64 8, .lst false 2 1 [.int .i64 1, .int .i64 102], .int .i64 1, .int .i64 0, .int .i64 12, .lst false 1 1 [.int .i64 205], .int .i64 0, .int .i64 7, .int .i64 6, .lst false 2 1 [.int .i64 102, .int .i64 205], .int .i64 1, .int .i64 9, .int .i64 14], .int .i64 1, .int .i64 6, .int .i64 2, .int .i64 20, .lst true 2 1 [.int .i64 10, .int .i64 16], .nilS, .int .i64 1, .int .i64 6, .int .i64 2, .int .i64 20, .lst true 2 1 [.int .i64 10, .int .i64 16], .lst true 5 4 [.nilS, .int .i64 0, .int .i64 2, .int .i64 5, .lst false 1 1 [.int .i64 102], .int .i64 1, .int .i64 4, .int .i64 8, .lst false 2 1 [.int .i64 1, .int .i64 102], .int .i64 1, .int .i64 0, .int .i64 12, .lst false 1 1 [.int .i64 205], .int .i64 0, .int .i64 7, .int .i64 6, .lst false 2 1 [.int .i64 102, .int .i64 205], .int .i64 1, .int .i64 9, .int .i64 14], .int .i64 1, .int .i64 6, .int .i64 2, .int .i64 20, .lst true 2 1 [.int .i64 10, .int .i64 16], .lst true 5 4 [.lst true 1 1 [.int .i64 300], .int .i64 0, .int .i64 2, .int .i64 5, .lst false 1 1 [.int .i64 102], .int .i64 1, .int .i64 4, .int .i64 8, .lst false 2 1 [.int .i64 1, .int .i64 102], .int .i64 1, .int .i64 0, .int .i64 12, .lst false 1 1 [.int .i64 205], .int .i64 0, .int .i64 7, .int .i64 6, .lst false 2 1 [.int .i64 102, .int .i64 205], .int .i64 1, .int .i64 9, .int .i64 14], .int .i64 1, .int .i64 6, .int .i64 2, .int .i64 20, .lst true 2 1 [.int .i64 10, .int .i64 16], .lst true 5 4 [.lst false 1 1 [.int .i64 1], .int .i64 0, .int .i64 10, .int .i64 5, .lst false 1 1 [.int .i64 102], .int .i64 1, .int .i64 4, .int .i64 8, .lst false 2 1 [.int .i64 1, .int .i64 102], .int .i64 1, .int .i64 0, .int .i64 12, .lst false 1 1 [.int .i64 205], .int .i64 0, .int .i64 7, .int .i64 6, .lst false 2 1 [.int .i64 102, .int .i64 205], .int .i64 1, .int .i64 9, .int .i64 14], .int .i64 1, .int .i64 6, .int .i64 2, .int .i64 20, .lst true 2 1 [.int .i64 10, .int .i64 16], .lst true 5 4 [.lst false 1 1 [.int .i64 1], .int .i64 0, .int .i64 2, .int .i64 11, .lst false 1 1 [.int .i64 102], .int .i64 1, .int .i64 4, .int .i64 8, .lst false 2 1 [.int .i64 1, .int .i64 102], .int .i64 1, .int .i64 0, .int .i64 12, .lst false 1 1 [.int .i64 205], .int .i64 0, .int .i64 7, .int .i64 6, .lst false 2 1 [.int .i64 102, .int .i64 205], .int .i64 1, .int .i64 9, .int .i64 14], .int .i64 1, .int .i64 6, .int .i64 2, .int .i64 20, .lst true 2 1 [.int .i64 10, .int .i64 16], .lst true 5 4 [.lst false 1 1 [.int .i64 1], .int .i64 0, .int .i64 2, .int .i64 0, .lst false 1 1 [.int .i64 102], .int .i64 1, .int .i64 4, .int .i64 8, .lst false 2 1 [.int .i64 1, .int .i64 102], .int .i64 1, .int .i64 0, .int .i64 12, .lst false 1 1 [.int .i64 205], .int .i64 0, .int .i64 7, .int .i64 6, .lst false 2 1 [.int .i64 102, .int .i64 205], .int .i64 1, .int .i64 9, .int .i64 14], .int .i64 1, .int .i64 6, .int .i64 2, .int .i64 20, .lst true 2 1 [.int .i64 10, .int .i64 16], .lst true 5 4 [.lst false 1 1 [.int .i64 1], .int .i64 0, .int .i64 2, .int .i64 5, .lst false 1 1 [.int .i64 102], .int .i64 1, .int .i64 4, .int .i64 8, .lst false 2 1 [.int .i64 1, .int .i64 102], .int .i64 1, .int .i64 0, .int .i64 12, .lst false 1 1 [.int .i64 205], .int .i64 0, .int .i64 7, .int .i64 6, .lst false 2 1 [.int .i64 102, .int .i64 205], .int .i64 1, .int .i64 9, .int .i64 14], .int .i64 0, .int .i64 201, .int .i64 2, .int .i64 20, .lst true 2 1 [.int .i64 10, .int .i64 16], .lst true 5 4 [.lst false 1 1 [.int .i64 1], .int .i64 0, .int .i64 2, .int .i64 5, .lst false 1 1 [.int .i64 102], .int .i64 1, .int .i64 4, .int .i64 8, .lst false 2 1 [.int .i64 1, .int .i64 102], .int .i64 1, .int .i64 0, .int .i64 12, .lst false 1 1 [.int .i64 205], .int .i64 0, .int .i64 7, .int .i64 6, .lst false 2 1 [.int .i64 102, .int .i64 205], .int .i64 1, .int .i64 9, .int .i64 14], .int .i64 1, .int .i64 6, .int .i64 2, .int .i64 501, .lst true 2 1 [.int .i64 10, .int .i64 16], .lst true 11 4 [.nilS, .int .i64 0, .int .i64 0, .int .i64 0, .nilS, .int .i64 0, .int .i64 0, .int .i64 0, .nilS, .int .i64 0, .int .i64 0, .int .i64 0, .nilS, .int .i64 0, .int .i64 0, .int .i64 0, .nilS, .int .i64 0, .int .i64 0, .int .i64 0, .nilS, .int .i64 0, .int .i64 0, .int .i64 0, .nilS, .int .i64 0, .int .i64 0, .int .i64 0, .nilS, .int .i64 0, .int .i64 0, .int .i64 0, .nilS, .int .i64 0, .int .i64 0, .int .i64 0, .nilS, .int .i64 0, .int .i64 0, .int .i64 0, .nilS, .int .i64 0, .int .i64 0, .int .i64 0], .int .i64 1, .int .i64 6, .int .i64 2, .int .i64 20]
abbrev mB0 : VM := [.gone, .vec vecP, .gone, .vec vecP, .gone, .vec vecP, .gone, .vec vecP, .gone, .vec vecP, .gone, .vec vecP, .gone, .vec vecP, .gone, .vec vecP, .gone, .vec vecP, .gone, .vec vecP, .gone, .vec vecP, .cells cB0]
abbrev mB1 : VM := [.gone, .vec vB0, .gone, .vec vB1, .gone, .vec vB2, .gone, .vec vB3, .gone, .vec vB4, .gone, .vec vB5, .gone, .vec vB6, .gone, .vec vB7, .gone, .vec vB8, .gone, .vec vB9, .gone, .vec vB10, .cells cB1, .vec vB11]
abbrev mBF : VM := [.gone, .gone, .gone, .gone, .gone, .vec vB2, .gone, .gone, .gone, .gone, .gone, .gone, .gone, .gone, .gone, .gone, .gone, .gone, .gone, .gone, .gone, .vec vB10, .cells cBF, .gone]
theorem zB11 : List.map (fun i => PV.ofS ([Value.slice none 0 0, Value.int IntKind.i64 0, Value.int IntKind.i64 0, Value.int IntKind.i64 0][i % 4]?.getD undef)) (List.range 44) = vB11 := rfl
theorem dP1 : (dec (PV.lst true 5 4 [.lst false 1 1 [.int .i64 1], .int .i64 0, .int .i64 2, .int .i64 5, .lst false 1 1 [.int .i64 102], .int .i64 1, .int .i64 4, .int .i64 8, .lst false 2 1 [.int .i64 1, .int .i64 102], .int .i64 1, .int .i64 0, .int .i64 12, .lst false 1 1 [.int .i64 205], .int .i64 0, .int .i64 7, .int .i64 6, .lst false 2 1 [.int .i64 102, .int .i64 205], .int .i64 1, .int .i64 9, .int .i64 14]) : Option (List Piece)) = some [⟨[1], 0, 2, 5⟩, ⟨[102], 1, 4, 8⟩, ⟨[1, 102], 1, 0, 12⟩, ⟨[205], 0, 7, 6⟩, ⟨[102, 205], 1, 9, 14⟩] := rfl
theorem dP2 : (dec (PV.lst true 5 4 [.lst false 1 1 [.int .i64 1], .int .i64 0, .int .i64 2, .int .i64 5, .lst false 1 1 [.int .i64 102], .int .i64 1, .int .i64 4, .int .i64 8, .lst false 2 1 [.int .i64 1, .int .i64 102], .int .i64 1, .int .i64 0, .int .i64 12, .lst false 1 1 [.int .i64 205], .int .i64 0, .int .i64 7, .int .i64 6, .lst false 2 1 [.int .i64 102, .int .i64 205], .int .i64 1, .int .i64 9, .int .i64 14]) : Option (List Piece)) = some [⟨[1], 0, 2, 5⟩, ⟨[102], 1, 4, 8⟩, ⟨[1, 102], 1, 0, 12⟩, ⟨[205], 0, 7, 6⟩, ⟨[102, 205], 1, 9, 14⟩] := rfl
theorem dP4 : (dec (PV.lst true 5 4 [.nilS, .int .i64 0, .int .i64 2, .int .i64 5, .lst false 1 1 [.int .i64 102], .int .i64 1, .int .i64 4, .int .i64 8, .lst false 2 1 [.int .i64 1, .int .i64 102], .int .i64 1, .int .i64 0, .int .i64 12, .lst false 1 1 [.int .i64 205], .int .i64 0, .int .i64 7, .int .i64 6, .lst false 2 1 [.int .i64 102, .int .i64 205], .int .i64 1, .int .i64 9, .int .i64 14]) : Option (List Piece)) = some [⟨[], 0, 2, 5⟩, ⟨[102], 1, 4, 8⟩, ⟨[1, 102], 1, 0, 12⟩, ⟨[205], 0, 7, 6⟩, ⟨[102, 205], 1, 9, 14⟩] := rfl
theorem dP5 : (dec (PV.lst true 5 4 [.lst true 1 1 [.int .i64 300], .int .i64 0, .int .i64 2, .int .i64 5, .lst false 1 1 [.int .i64 102], .int .i64 1, .int .i64 4, .int .i64 8, .lst false 2 1 [.int .i64 1, .int .i64 102], .int .i64 1, .int .i64 0, .int .i64 12, .lst false 1 1 [.int .i64 205], .int .i64 0, .int .i64 7, .int .i64 6, .lst false 2 1 [.int .i64 102, .int .i64 205], .int .i64 1, .int .i64 9, .int .i64 14]) : Option (List Piece)) = some [⟨[300], 0, 2, 5⟩, ⟨[102], 1, 4, 8⟩, ⟨[1, 102], 1, 0, 12⟩, ⟨[205], 0, 7, 6⟩, ⟨[102, 205], 1, 9, 14⟩] := rfl
theorem dP6 : (dec (PV.lst true 5 4 [.lst false 1 1 [.int .i64 1], .int .i64 0, .int .i64 10, .int .i64 5, .lst false 1 1 [.int .i64 102], .int .i64 1, .int .i64 4, .int .i64 8, .lst false 2 1 [.int .i64 1, .int .i64 102], .int .i64 1, .int .i64 0, .int .i64 12, .lst false 1 1 [.int .i64 205], .int .i64 0, .int .i64 7, .int .i64 6, .lst false 2 1 [.int .i64 102, .int .i64 205], .int .i64 1, .int .i64 9, .int .i64 14]) : Option (List Piece)) = some [⟨[1], 0, 10, 5⟩, ⟨[102], 1, 4, 8⟩, ⟨[1, 102], 1, 0, 12⟩, ⟨[205], 0, 7, 6⟩, ⟨[102, 205], 1, 9, 14⟩] := rfl
theorem dP7 : (dec (PV.lst true 5 4 [.lst false 1 1 [.int .i64 1], .int .i64 0, .int .i64 2, .int .i64 11, .lst false 1 1 [.int .i64 102], .int .i64 1, .int .i64 4, .int .i64 8, .lst false 2 1 [.int .i64 1, .int .i64 102], .int .i64 1, .int .i64 0, .int .i64 12, .lst false 1 1 [.int .i64 205], .int .i64 0, .int .i64 7, .int .i64 6, .lst false 2 1 [.int .i64 102, .int .i64 205], .int .i64 1, .int .i64 9, .int .i64 14]) : Option (List Piece)) = some [⟨[1], 0, 2, 11⟩, ⟨[102], 1, 4, 8⟩, ⟨[1, 102], 1, 0, 12⟩, ⟨[205], 0, 7, 6⟩, ⟨[102, 205], 1, 9, 14⟩] := rfl
theorem dP8 : (dec (PV.lst true 5 4 [.lst false 1 1 [.int .i64 1], .int .i64 0, .int .i64 2, .int .i64 0, .lst false 1 1 [.int .i64 102], .int .i64 1, .int .i64 4, .int .i64 8, .lst false 2 1 [.int .i64 1, .int .i64 102], .int .i64 1, .int .i64 0, .int .i64 12, .lst false 1 1 [.int .i64 205], .int .i64 0, .int .i64 7, .int .i64 6, .lst false 2 1 [.int .i64 102, .int .i64 205], .int .i64 1, .int .i64 9, .int .i64 14]) : Option (List Piece)) = some [⟨[1], 0, 2, 0⟩, ⟨[102], 1, 4, 8⟩, ⟨[1, 102], 1, 0, 12⟩, ⟨[205], 0, 7, 6⟩, ⟨[102, 205], 1, 9, 14⟩] := rfl
theorem dP9 : (dec (PV.lst true 5 4 [.lst false 1 1 [.int .i64 1], .int .i64 0, .int .i64 2, .int .i64 5, .lst false 1 1 [.int .i64 102], .int .i64 1, .int .i64 4, .int .i64 8, .lst false 2 1 [.int .i64 1, .int .i64 102], .int .i64 1, .int .i64 0, .int .i64 12, .lst false 1 1 [.int .i64 205], .int .i64 0, .int .i64 7, .int .i64 6, .lst false 2 1 [.int .i64 102, .int .i64 205], .int .i64 1, .int .i64 9, .int .i64 14]) : Option (List Piece)) = some [⟨[1], 0, 2, 5⟩, ⟨[102], 1, 4, 8⟩, ⟨[1, 102], 1, 0, 12⟩, ⟨[205], 0, 7, 6⟩, ⟨[102, 205], 1, 9, 14⟩] := rfl
theorem dP10 : (dec (PV.lst true 5 4 [.lst false 1 1 [.int .i64 1], .int .i64 0, .int .i64 2, .int .i64 5, .lst false 1 1 [.int .i64 102], .int .i64 1, .int .i64 4, .int .i64 8, .lst false 2 1 [.int .i64 1, .int .i64 102], .int .i64 1, .int .i64 0, .int .i64 12, .lst false 1 1 [.int .i64 205], .int .i64 0, .int .i64 7, .int .i64 6, .lst false 2 1 [.int .i64 102, .int .i64 205], .int .i64 1, .int .i64 9, .int .i64 14]) : Option (List Piece)) = some [⟨[1], 0, 2, 5⟩, ⟨[102], 1, 4, 8⟩, ⟨[1, 102], 1, 0, 12⟩, ⟨[205], 0, 7, 6⟩, ⟨[102, 205], 1, 9, 14⟩] := rfl
theorem dP11 : (dec (PV.lst true 11 4 [.nilS, .int .i64 0, .int .i64 0, .int .i64 0, .nilS, .int .i64 0, .int .i64 0, .int .i64 0, .nilS, .int .i64 0, .int .i64 0, .int .i64 0, .nilS, .int .i64 0, .int .i64 0, .int .i64 0, .nilS, .int .i64 0, .int .i64 0, .int .i64 0, .nilS, .int .i64 0, .int .i64 0, .int .i64 0, .nilS, .int .i64 0, .int .i64 0, .int .i64 0, .nilS, .int .i64 0, .int .i64 0, .int .i64 0, .nilS, .int .i64 0, .int .i64 0, .int .i64 0, .nilS, .int .i64 0, .int .i64 0, .int .i64 0, .nilS, .int .i64 0, .int .i64 0, .int .i64 0]) : Option (List Piece)) = some [⟨[], 0, 0, 0⟩, ⟨[], 0, 0, 0⟩, ⟨[], 0, 0, 0⟩, ⟨[], 0, 0, 0⟩, ⟨[], 0, 0, 0⟩, ⟨[], 0, 0, 0⟩, ⟨[], 0, 0, 0⟩, ⟨[], 0, 0, 0⟩, ⟨[], 0, 0, 0⟩, ⟨[], 0, 0, 0⟩, ⟨[], 0, 0, 0⟩] := rfl
theorem di9 (a b c d e f g h i : Int) : (dec (PV.lst true 9 1 [.int .i64 a, .int .i64 b, .int .i64 c, .int .i64 d, .int .i64 e, .int .i64 f, .int .i64 g, .int .i64 h, .int .i64 i]) : Option (List Int)) = some [a, b, c, d, e, f, g, h, i] := rfl
theorem di4 (a b c d : Int) : (dec (PV.lst true 4 1 [.int .i64 a, .int .i64 b, .int .i64 c, .int .i64 d]) : Option (List Int)) = some [a, b, c, d] := rfl
theorem tx0 : FewestVR bookC [] = ([], 51) ∧ NeededR bookC [[1], []] = ([], 51) ∧ IsPlanR bookC [] (-1) 0 [] = (false, 51) ∧ PlanPR bookC [] (-1) 0 = ([], 51) := by decide +kernel
theorem dT0 : (dec (PV.lst true 2 1 [.lst true 1 1 [.int .i64 1], .nilS]) : Option (List (List Int))) = some [[1], []] := rfl
theorem tx1 : FewestVR bookC [300] = ([], 51) ∧ NeededR bookC [[1], [300]] = ([], 51) ∧ IsPlanR bookC [300] (-1) 0 [] = (false, 51) ∧ PlanPR bookC [300] (-1) 0 = ([], 51) := by decide +kernel
theorem dT1 : (dec (PV.lst true 2 1 [.lst true 1 1 [.int .i64 1], .lst true 1 1 [.int .i64 300]]) : Option (List (List Int))) = some [[1], [300]] := rfl
theorem tx2 : FewestVR bookC [(-1)] = ([], 51) ∧ NeededR bookC [[1], [(-1)]] = ([], 51) ∧ IsPlanR bookC [(-1)] (-1) 0 [] = (false, 51) ∧ PlanPR bookC [(-1)] (-1) 0 = ([], 51) := by decide +kernel
theorem dT2 : (dec (PV.lst true 2 1 [.lst true 1 1 [.int .i64 1], .lst true 1 1 [.int .i64 (-1)]]) : Option (List (List Int))) = some [[1], [(-1)]] := rfl
theorem tx3 : FewestVR bookC [1, 1, 1, 1, 1, 1, 1, 1, 1] = ([], 51) ∧ NeededR bookC [[1], [1, 1, 1, 1, 1, 1, 1, 1, 1]] = ([], 51) ∧ IsPlanR bookC [1, 1, 1, 1, 1, 1, 1, 1, 1] (-1) 0 [] = (false, 51) ∧ PlanPR bookC [1, 1, 1, 1, 1, 1, 1, 1, 1] (-1) 0 = ([], 51) := by decide +kernel
theorem dT3 : (dec (PV.lst true 2 1 [.lst true 1 1 [.int .i64 1], .lst true 9 1 [.int .i64 1, .int .i64 1, .int .i64 1, .int .i64 1, .int .i64 1, .int .i64 1, .int .i64 1, .int .i64 1, .int .i64 1]]) : Option (List (List Int))) = some [[1], [1, 1, 1, 1, 1, 1, 1, 1, 1]] := rfl
theorem ti0 : IsPlanR bookC textC (-1) 5 [] = (false, 52) ∧ PlanPR bookC textC (-1) 5 = ([], 52) ∧ LatestPR bookC textC (-1) 5 = (0, 52) := by decide +kernel
theorem ti1 : IsPlanR bookC textC 5 4 [] = (false, 52) ∧ PlanPR bookC textC 5 4 = ([], 52) ∧ LatestPR bookC textC 5 4 = (0, 52) := by decide +kernel
theorem ti2 : IsPlanR bookC textC 0 6101 [] = (false, 52) ∧ PlanPR bookC textC 0 6101 = ([], 52) ∧ LatestPR bookC textC 0 6101 = (0, 52) := by decide +kernel
theorem ti3 : IsPlanR bookC textC 99999999 100000001 [] = (false, 52) ∧ PlanPR bookC textC 99999999 100000001 = ([], 52) ∧ LatestPR bookC textC 99999999 100000001 = (0, 52) := by decide +kernel
theorem no0 : IsPlanR bookC textC 0 60 [] = (false, 0) := by decide +kernel
theorem no1 : IsPlanR bookC textC 0 60 [⟨2, 32⟩] = (false, 0) := by decide +kernel
theorem no2 : IsPlanR bookC textC 0 60 [⟨2, 16⟩, ⟨3, 27⟩] = (false, 0) := by decide +kernel
theorem no3 : IsPlanR bookC textC 0 60 [⟨2, 32⟩, ⟨3, 57⟩] = (false, 0) := by decide +kernel
theorem no4 : IsPlanR bookC textC 0 60 [⟨2, 31⟩, ⟨3, 47⟩] = (false, 0) := by decide +kernel
theorem no5 : IsPlanR bookC textC 0 60 [⟨2, 32⟩, ⟨5, 47⟩] = (false, 0) := by decide +kernel
theorem no6 : IsPlanR bookC textC 0 60 [⟨3, 47⟩, ⟨2, 32⟩] = (false, 0) := by decide +kernel
theorem no7 : IsPlanR bookC textC 0 60 [⟨0, 32⟩, ⟨3, 47⟩] = (false, 0) := by decide +kernel
theorem ds1 (a b : Int) : (dec (PV.lst true 1 2 [.int .i64 a, .int .i64 b]) : Option (List Start)) = some [⟨a, b⟩] := rfl
theorem ds2g (a b c d : Int) : (dec (PV.lst true 2 2 [.int .i64 a, .int .i64 b, .int .i64 c, .int .i64 d]) : Option (List Start)) = some [⟨a, b⟩, ⟨c, d⟩] := rfl
theorem kn0 : WordsR ⟨0, 100, 0, 0⟩ = ([], 52) := by decide +kernel
theorem kn1 : WordsR ⟨0, 0, 0, -1⟩ = ([], 52) := by decide +kernel
theorem kn2 : FewestVR bookC [205, 205, 1, 7] = ([], 4) := by decide +kernel
theorem kn3 : NeededR bookC [] = ([], 51) := by decide +kernel
theorem kn4 : NeededR bookC [[7]] = ([], 4) := by decide +kernel
theorem kn5 : PlanPR bookC textC 0 20 = ([], 4) := by decide +kernel
theorem kn6 : LatestPR bookC textC 33 60 = (0, 4) := by decide +kernel
theorem kn7 : DayP bookC ⟨2, 4, 6, 1, []⟩ 48 5 1 = ([], 52) := by decide +kernel
theorem kn8 : DayP bookC ⟨2, 4, 6, 1, []⟩ 0 61 1 = ([], 52) := by decide +kernel
theorem kn9 : DayP bookC ⟨2, 4, 6, 1, []⟩ 0 5 21 = ([], 52) := by decide +kernel
theorem kn10 : DayP bookC ⟨0, 0, 0, 0, []⟩ 0 5 1 = ([], 52) := by decide +kernel
theorem kn11 : FewestVR bookC [102, 205, 1] = ([4, 0], 0) := by decide +kernel
theorem kn12 : NeededR bookC [textC] = ([0, 4], 0) := by decide +kernel
theorem kn13 : IsPlanR bookC textC 33 60 [⟨2, 32⟩, ⟨3, 47⟩] = (false, 0) := by decide +kernel
theorem kn14 : DayP bookC ⟨2, 4, 6, 1, []⟩ 47 5 3 = ([], 0) := by decide +kernel
theorem kn15 : DayP bookC ⟨2, 4, 6, 1, []⟩ 0 5 2 = ([-1, -1], 0) := by decide +kernel
theorem knp : (PlanPR bookC textC 0 30).1.length = 2 ∧ (PlanPR bookC textC 0 30).2 = 0 := by decide +kernel
theorem dt1 : (dec (PV.lst true 1 1 [.lst false textC.length 1 (encL textC)]) : Option (List (List Int))) = some [textC] := rfl
theorem dt7 : (dec (PV.lst true 1 1 [.lst true 1 1 [.int .i64 7]]) : Option (List (List Int))) = some [[7]] := rfl
abbrev textV : List PV := [.nilS, .lst true 1 1 [.int .i64 300], .lst true 1 1 [.int .i64 (-1)], .lst true 9 1 [.int .i64 1, .int .i64 1, .int .i64 1, .int .i64 1, .int .i64 1, .int .i64 1, .int .i64 1, .int .i64 1, .int .i64 1]]
abbrev timeV : List PV := [.int .i64 (-1), .int .i64 5, .int .i64 5, .int .i64 4, .int .i64 0, .int .i64 6101, .int .i64 99999999, .int .i64 100000001]
abbrev noV : List PV := [.nilS, .lst true 1 2 [.int .i64 2, .int .i64 32], .lst true 2 2 [.int .i64 2, .int .i64 16, .int .i64 3, .int .i64 27], .lst true 2 2 [.int .i64 2, .int .i64 32, .int .i64 3, .int .i64 57], .lst true 2 2 [.int .i64 2, .int .i64 31, .int .i64 3, .int .i64 47], .lst true 2 2 [.int .i64 2, .int .i64 32, .int .i64 5, .int .i64 47], .lst true 2 2 [.int .i64 3, .int .i64 47, .int .i64 2, .int .i64 32], .lst true 2 2 [.int .i64 0, .int .i64 32, .int .i64 3, .int .i64 47]]
set_option maxHeartbeats 12800000 in
set_option maxRecDepth 100000 in
theorem l_Known (hE : E.env.fn = G) (hgl : E.gl 1 = some [f130v, f131v]) (hgl2 : E.gl 0 = some vparts) : VP E 12 [] (.bool true) := by
  have good0 := goodV_cons (w_To hE) goodV_nil
  have good := goodV_cons (v_Words hE hgl2) (goodV_cons (v_book hE) (goodV_cons (v_text hE) (goodV_cons (v_Fewest hE) (goodV_cons (v_Needed hE) (goodV_cons (v_IsPlan hE) (goodV_cons (v_Plan hE) (goodV_cons (v_Latest hE) (goodV_cons (v_Day hE hgl hgl2) (goodV_cons (v_Check hE) (goodV_cons (w_To hE) (goodV_cons (w_Alike hE) (goodV_cons (v_works hE hgl hgl2) goodV_nil))))))))))))
  refine VP.func (A := F12) (by rw [hE]; rfl) (by simp [F12]) ?_; unfold F12
  refine VW.seq_cut [] [] (VW.run good [] ?_) ?_; simp (implicitDefEqProofs := false) [enc_list]
  · exact ⟨0, [], by simp [enc_list], by simp, by simp, by simp (implicitDefEqProofs := false) [enc_list], by simp (implicitDefEqProofs := false) [enc_list]⟩
  refine VW.seq_cut [(1, .sl 22 72 0 12 12 6)] mB0 (VW.run good0 [78] ?_) ?_
  · simp (implicitDefEqProofs := false) [enc_list, spliceV]
    unfold VCo
    refine vc_book hE rfl ?_
    simp (implicitDefEqProofs := false) [enc_list, spliceV]
    unfold VCo
    refine vc_book hE rfl ?_
    simp (implicitDefEqProofs := false) [enc_list, spliceV]
    unfold VCo
    refine vc_book hE rfl ?_
    simp (implicitDefEqProofs := false) [enc_list, spliceV]
    unfold VCo
    refine vc_book hE rfl ?_
    simp (implicitDefEqProofs := false) [enc_list, spliceV]
    unfold VCo
    refine vc_book hE rfl ?_
    simp (implicitDefEqProofs := false) [enc_list, spliceV]
    unfold VCo
    refine vc_book hE rfl ?_
    simp (implicitDefEqProofs := false) [enc_list, spliceV]
    unfold VCo
    refine vc_book hE rfl ?_
    simp (implicitDefEqProofs := false) [enc_list, spliceV]
    unfold VCo
    refine vc_book hE rfl ?_
    simp (implicitDefEqProofs := false) [enc_list, spliceV]
    unfold VCo
    refine vc_book hE rfl ?_
    simp (implicitDefEqProofs := false) [enc_list, spliceV]
    unfold VCo
    refine vc_book hE rfl ?_
    simp (implicitDefEqProofs := false) [enc_list, spliceV]
    unfold VCo
    refine vc_book hE rfl ?_
    simp (implicitDefEqProofs := false) [enc_list, spliceV]
    exact ⟨23, [0, 2, 4, 6, 8, 10, 12, 14, 16, 18, 20], by simp [enc_list], by simp, by simp, by simp (implicitDefEqProofs := false) [enc_list], by simp (implicitDefEqProofs := false) [enc_list]⟩
  refine VW.seq (VW.run good [] ?_); simp (implicitDefEqProofs := false) [enc_list, spliceV]
  refine VW.seq (VW.run good [] ?_); simp (implicitDefEqProofs := false) [enc_list, spliceV]
  refine VW.seq (VW.run good [] ?_); simp (implicitDefEqProofs := false) [enc_list, spliceV]
  refine VW.seq (VW.run good [] ?_); simp (implicitDefEqProofs := false) [enc_list, spliceV]
  refine VW.seq (VW.run good [] ?_); simp (implicitDefEqProofs := false) [enc_list, spliceV]
  refine VW.seq (VW.run good [] ?_); simp (implicitDefEqProofs := false) [enc_list, spliceV]
  refine VW.seq (VW.run good [] ?_); simp (implicitDefEqProofs := false) [enc_list, spliceV]
  refine VW.seq (VW.run good [] ?_); simp (implicitDefEqProofs := false) [enc_list, spliceV]
  refine VW.seq (VW.run good [] ?_); simp (implicitDefEqProofs := false) [enc_list, spliceV]
  refine VW.seq (VW.run good [] ?_); simp (implicitDefEqProofs := false) [enc_list, spliceV]
  refine VW.seq_cut [(1, .sl 22 72 0 12 12 6)] mB1 (VW.run good [] ?_) ?_
  · simp (implicitDefEqProofs := false) [enc_list, spliceV, zB11]
    exact ⟨24, [], by simp [enc_list], by simp, by simp, by simp (implicitDefEqProofs := false) [enc_list], by simp (implicitDefEqProofs := false) [enc_list]⟩
  refine VW.freezeM (t := 1) (len := 5 * 4) (o := 0) (q := 5) (cap := 5) (e := 4) (cs := _) 22 7 rfl rfl (by decide) ?_
  rw [fzP 5 rfl rfl (by decide) (by decide)]
  refine VW.freezeM (t := 3) (len := 5 * 4) (o := 0) (q := 5) (cap := 5) (e := 4) (cs := _) 22 13 rfl rfl (by decide) ?_
  rw [fzP 5 rfl rfl (by decide) (by decide)]
  refine VW.freezeM (t := 7) (len := 5 * 4) (o := 0) (q := 5) (cap := 5) (e := 4) (cs := _) 22 25 rfl rfl (by decide) ?_
  rw [fzP 5 rfl rfl (by decide) (by decide)]
  refine VW.freezeM (t := 9) (len := 5 * 4) (o := 0) (q := 5) (cap := 5) (e := 4) (cs := _) 22 31 rfl rfl (by decide) ?_
  rw [fzP 5 rfl rfl (by decide) (by decide)]
  refine VW.freezeM (t := 11) (len := 5 * 4) (o := 0) (q := 5) (cap := 5) (e := 4) (cs := _) 22 37 rfl rfl (by decide) ?_
  rw [fzP 5 rfl rfl (by decide) (by decide)]
  refine VW.freezeM (t := 13) (len := 5 * 4) (o := 0) (q := 5) (cap := 5) (e := 4) (cs := _) 22 43 rfl rfl (by decide) ?_
  rw [fzP 5 rfl rfl (by decide) (by decide)]
  refine VW.freezeM (t := 15) (len := 5 * 4) (o := 0) (q := 5) (cap := 5) (e := 4) (cs := _) 22 49 rfl rfl (by decide) ?_
  rw [fzP 5 rfl rfl (by decide) (by decide)]
  refine VW.freezeM (t := 17) (len := 5 * 4) (o := 0) (q := 5) (cap := 5) (e := 4) (cs := _) 22 55 rfl rfl (by decide) ?_
  rw [fzP 5 rfl rfl (by decide) (by decide)]
  refine VW.freezeM (t := 19) (len := 5 * 4) (o := 0) (q := 5) (cap := 5) (e := 4) (cs := _) 22 61 rfl rfl (by decide) ?_
  rw [fzP 5 rfl rfl (by decide) (by decide)]
  refine VW.freezeM (t := 23) (len := 11 * 4) (o := 0) (q := 11) (cap := 11) (e := 4) (cs := _) 22 67 rfl rfl (by decide) ?_
  rw [fzP 11 rfl rfl (by decide) (by decide)]
  refine .ofCut (l := [(1, .sl 22 72 0 12 12 6)]) (M := mBF) ⟨24, [], by simp [enc_list], by simp, by simp, by simp (implicitDefEqProofs := false) [enc_list], by simp (implicitDefEqProofs := false) [enc_list]⟩ ?_
  refine VW.run good [] ?_; simp (implicitDefEqProofs := false) [enc_list]
  refine VW.loop_to 0 [] [] (True) ?_ (fun hp f m hc => ?_)
  · obtain ⟨Inv, hI⟩ : ∃ Inv : Nat → List (Nat × PV) → VM → Prop, ∀ k f m, Inv k f m ↔ (f = [(1, .sl 22 72 0 12 12 6), (2, .int .i64 k)] ∧ m = mBF) := ⟨_, fun _ _ _ => Iff.rfl⟩
    refine VW.loop_cut Inv 12 ?_ ?_ ?_
    · exact ⟨_, _, (hI _ _ _).2 ⟨rfl, rfl⟩, ⟨24, [], by simp [enc_list], by simp, by simp, by simp (implicitDefEqProofs := false) [enc_list], by simp (implicitDefEqProofs := false) [enc_list]⟩⟩
    · intro k f m hk hv
      obtain ⟨rfl, rfl⟩ := (hI _ _ _).1 hv
      obtain rfl | rfl | rfl | rfl | rfl | rfl | rfl | rfl | rfl | rfl | rfl | rfl : k = 0 ∨ k = 1 ∨ k = 2 ∨ k = 3 ∨ k = 4 ∨ k = 5 ∨ k = 6 ∨ k = 7 ∨ k = 8 ∨ k = 9 ∨ k = 10 ∨ k = 11 := by omega
      · have wk : IntKind.i64.wrap 1 = 1 := by decide
        refine VW.run good [] ?_; simp (implicitDefEqProofs := false) [enc_list, badB0.f, badB0.n, badB0.i, badB0.p, badB0.l, badB0.d, badB0.c, wk, di1, di2, spliceV]
        exact ⟨_, _, (hI _ _ _).2 ⟨rfl, rfl⟩, ⟨24, [], by simp [enc_list], by simp, by simp, by simp (implicitDefEqProofs := false) [enc_list], by simp (implicitDefEqProofs := false) [enc_list]⟩⟩
      · have wk : IntKind.i64.wrap 2 = 2 := by decide
        refine VW.run good [] ?_; simp (implicitDefEqProofs := false) [enc_list, badB1.f, badB1.n, badB1.i, badB1.p, badB1.l, badB1.d, badB1.c, dP1, wk, di1, di2, spliceV]
        exact ⟨_, _, (hI _ _ _).2 ⟨rfl, rfl⟩, ⟨24, [], by simp [enc_list], by simp, by simp, by simp (implicitDefEqProofs := false) [enc_list], by simp (implicitDefEqProofs := false) [enc_list]⟩⟩
      · have wk : IntKind.i64.wrap 3 = 3 := by decide
        refine VW.run good [] ?_; simp (implicitDefEqProofs := false) [enc_list, badB2.f, badB2.n, badB2.i, badB2.p, badB2.l, badB2.d, badB2.c, dP2, wk, di1, di2, spliceV]
        exact ⟨_, _, (hI _ _ _).2 ⟨rfl, rfl⟩, ⟨24, [], by simp [enc_list], by simp, by simp, by simp (implicitDefEqProofs := false) [enc_list], by simp (implicitDefEqProofs := false) [enc_list]⟩⟩
      · have wk : IntKind.i64.wrap 4 = 4 := by decide
        refine VW.run good [] ?_; simp (implicitDefEqProofs := false) [enc_list, badB3.f, badB3.n, badB3.i, badB3.p, badB3.l, badB3.d, badB3.c, wk, di1, di2, spliceV]
        exact ⟨_, _, (hI _ _ _).2 ⟨rfl, rfl⟩, ⟨24, [], by simp [enc_list], by simp, by simp, by simp (implicitDefEqProofs := false) [enc_list], by simp (implicitDefEqProofs := false) [enc_list]⟩⟩
      · have wk : IntKind.i64.wrap 5 = 5 := by decide
        refine VW.run good [] ?_; simp (implicitDefEqProofs := false) [enc_list, badB4.f, badB4.n, badB4.i, badB4.p, badB4.l, badB4.d, badB4.c, dP4, wk, di1, di2, spliceV]
        exact ⟨_, _, (hI _ _ _).2 ⟨rfl, rfl⟩, ⟨24, [], by simp [enc_list], by simp, by simp, by simp (implicitDefEqProofs := false) [enc_list], by simp (implicitDefEqProofs := false) [enc_list]⟩⟩
      · have wk : IntKind.i64.wrap 6 = 6 := by decide
        refine VW.run good [] ?_; simp (implicitDefEqProofs := false) [enc_list, badB5.f, badB5.n, badB5.i, badB5.p, badB5.l, badB5.d, badB5.c, dP5, wk, di1, di2, spliceV]
        exact ⟨_, _, (hI _ _ _).2 ⟨rfl, rfl⟩, ⟨24, [], by simp [enc_list], by simp, by simp, by simp (implicitDefEqProofs := false) [enc_list], by simp (implicitDefEqProofs := false) [enc_list]⟩⟩
      · have wk : IntKind.i64.wrap 7 = 7 := by decide
        refine VW.run good [] ?_; simp (implicitDefEqProofs := false) [enc_list, badB6.f, badB6.n, badB6.i, badB6.p, badB6.l, badB6.d, badB6.c, dP6, wk, di1, di2, spliceV]
        exact ⟨_, _, (hI _ _ _).2 ⟨rfl, rfl⟩, ⟨24, [], by simp [enc_list], by simp, by simp, by simp (implicitDefEqProofs := false) [enc_list], by simp (implicitDefEqProofs := false) [enc_list]⟩⟩
      · have wk : IntKind.i64.wrap 8 = 8 := by decide
        refine VW.run good [] ?_; simp (implicitDefEqProofs := false) [enc_list, badB7.f, badB7.n, badB7.i, badB7.p, badB7.l, badB7.d, badB7.c, dP7, wk, di1, di2, spliceV]
        exact ⟨_, _, (hI _ _ _).2 ⟨rfl, rfl⟩, ⟨24, [], by simp [enc_list], by simp, by simp, by simp (implicitDefEqProofs := false) [enc_list], by simp (implicitDefEqProofs := false) [enc_list]⟩⟩
      · have wk : IntKind.i64.wrap 9 = 9 := by decide
        refine VW.run good [] ?_; simp (implicitDefEqProofs := false) [enc_list, badB8.f, badB8.n, badB8.i, badB8.p, badB8.l, badB8.d, badB8.c, dP8, wk, di1, di2, spliceV]
        exact ⟨_, _, (hI _ _ _).2 ⟨rfl, rfl⟩, ⟨24, [], by simp [enc_list], by simp, by simp, by simp (implicitDefEqProofs := false) [enc_list], by simp (implicitDefEqProofs := false) [enc_list]⟩⟩
      · have wk : IntKind.i64.wrap 10 = 10 := by decide
        refine VW.run good [] ?_; simp (implicitDefEqProofs := false) [enc_list, badB9.f, badB9.n, badB9.i, badB9.p, badB9.l, badB9.d, badB9.c, dP9, wk, di1, di2, spliceV]
        exact ⟨_, _, (hI _ _ _).2 ⟨rfl, rfl⟩, ⟨24, [], by simp [enc_list], by simp, by simp, by simp (implicitDefEqProofs := false) [enc_list], by simp (implicitDefEqProofs := false) [enc_list]⟩⟩
      · have wk : IntKind.i64.wrap 11 = 11 := by decide
        refine VW.run good [] ?_; simp (implicitDefEqProofs := false) [enc_list, badB10.f, badB10.n, badB10.i, badB10.p, badB10.l, badB10.d, badB10.c, dP10, wk, di1, di2, spliceV]
        exact ⟨_, _, (hI _ _ _).2 ⟨rfl, rfl⟩, ⟨24, [], by simp [enc_list], by simp, by simp, by simp (implicitDefEqProofs := false) [enc_list], by simp (implicitDefEqProofs := false) [enc_list]⟩⟩
      · have wk : IntKind.i64.wrap 12 = 12 := by decide
        refine VW.run good [] ?_; simp (implicitDefEqProofs := false) [enc_list, badB11.f, badB11.n, badB11.i, badB11.p, badB11.l, badB11.d, badB11.c, dP11, wk, di1, di2, spliceV]
        exact ⟨_, _, (hI _ _ _).2 ⟨rfl, rfl⟩, ⟨24, [], by simp [enc_list], by simp, by simp, by simp (implicitDefEqProofs := false) [enc_list], by simp (implicitDefEqProofs := false) [enc_list]⟩⟩
    · intro f m hv
      obtain ⟨rfl, rfl⟩ := (hI _ _ _).1 hv
      refine VW.run good [] ?_; simp (implicitDefEqProofs := false) [enc_list]
      exact ⟨0, [], by simp [enc_list], by simp, by simp, by simp (implicitDefEqProofs := false) [enc_list], by simp (implicitDefEqProofs := false) [enc_list]⟩
  · simp (implicitDefEqProofs := false); refine .ofCut hc (VW.run good [] ?_); simp (implicitDefEqProofs := false) [enc_list, spliceV]
    refine VW.loop_to 2 [] [] (True) ?_ (fun hp f m hc => ?_)
    · obtain ⟨Inv, hI⟩ : ∃ Inv : Nat → List (Nat × PV) → VM → Prop, ∀ k f m, Inv k f m ↔ (f = [(15, .lst true 4 1 textV), (16, .int .i64 k)] ∧ m = []) := ⟨_, fun _ _ _ => Iff.rfl⟩
      refine VW.loop_cut Inv 4 ?_ ?_ ?_
      · exact ⟨_, _, (hI _ _ _).2 ⟨rfl, rfl⟩, ⟨0, [], by simp [enc_list], by simp, by simp, by simp (implicitDefEqProofs := false) [enc_list], by simp (implicitDefEqProofs := false) [enc_list]⟩⟩
      · intro k f m hk hv
        obtain ⟨rfl, rfl⟩ := (hI _ _ _).1 hv
        obtain rfl | rfl | rfl | rfl : k = 0 ∨ k = 1 ∨ k = 2 ∨ k = 3 := by omega
        · have wk : IntKind.i64.wrap 1 = 1 := by decide
          obtain ⟨t1, t2, t3, t4⟩ := tx0
          refine VW.run good [] ?_; simp (implicitDefEqProofs := false) [enc_list, t1, t2, t3, t4, dT0, wk, di1, di9, spliceV]
          exact ⟨_, _, (hI _ _ _).2 ⟨rfl, rfl⟩, ⟨0, [], by simp [enc_list], by simp, by simp, by simp (implicitDefEqProofs := false) [enc_list], by simp (implicitDefEqProofs := false) [enc_list]⟩⟩
        · have wk : IntKind.i64.wrap 2 = 2 := by decide
          obtain ⟨t1, t2, t3, t4⟩ := tx1
          refine VW.run good [] ?_; simp (implicitDefEqProofs := false) [enc_list, t1, t2, t3, t4, dT1, wk, di1, di9, spliceV]
          exact ⟨_, _, (hI _ _ _).2 ⟨rfl, rfl⟩, ⟨0, [], by simp [enc_list], by simp, by simp, by simp (implicitDefEqProofs := false) [enc_list], by simp (implicitDefEqProofs := false) [enc_list]⟩⟩
        · have wk : IntKind.i64.wrap 3 = 3 := by decide
          obtain ⟨t1, t2, t3, t4⟩ := tx2
          refine VW.run good [] ?_; simp (implicitDefEqProofs := false) [enc_list, t1, t2, t3, t4, dT2, wk, di1, di9, spliceV]
          exact ⟨_, _, (hI _ _ _).2 ⟨rfl, rfl⟩, ⟨0, [], by simp [enc_list], by simp, by simp, by simp (implicitDefEqProofs := false) [enc_list], by simp (implicitDefEqProofs := false) [enc_list]⟩⟩
        · have wk : IntKind.i64.wrap 4 = 4 := by decide
          obtain ⟨t1, t2, t3, t4⟩ := tx3
          refine VW.run good [] ?_; simp (implicitDefEqProofs := false) [enc_list, t1, t2, t3, t4, dT3, wk, di1, di9, spliceV]
          exact ⟨_, _, (hI _ _ _).2 ⟨rfl, rfl⟩, ⟨0, [], by simp [enc_list], by simp, by simp, by simp (implicitDefEqProofs := false) [enc_list], by simp (implicitDefEqProofs := false) [enc_list]⟩⟩
      · intro f m hv
        obtain ⟨rfl, rfl⟩ := (hI _ _ _).1 hv
        refine VW.run good [] ?_; simp (implicitDefEqProofs := false) [enc_list]
        exact ⟨0, [], by simp [enc_list], by simp, by simp, by simp (implicitDefEqProofs := false) [enc_list], by simp (implicitDefEqProofs := false) [enc_list]⟩
    · simp (implicitDefEqProofs := false); refine .ofCut hc (VW.run good [] ?_); simp (implicitDefEqProofs := false) [enc_list, spliceV]
      refine VW.loop_to 4 [] [] (True) ?_ (fun hp f m hc => ?_)
      · obtain ⟨Inv, hI⟩ : ∃ Inv : Nat → List (Nat × PV) → VM → Prop, ∀ k f m, Inv k f m ↔ (f = [(25, .lst true 4 2 timeV), (26, .int .i64 k)] ∧ m = []) := ⟨_, fun _ _ _ => Iff.rfl⟩
        refine VW.loop_cut Inv 4 ?_ ?_ ?_
        · exact ⟨_, _, (hI _ _ _).2 ⟨rfl, rfl⟩, ⟨0, [], by simp [enc_list], by simp, by simp, by simp (implicitDefEqProofs := false) [enc_list], by simp (implicitDefEqProofs := false) [enc_list]⟩⟩
        · intro k f m hk hv
          obtain ⟨rfl, rfl⟩ := (hI _ _ _).1 hv
          obtain rfl | rfl | rfl | rfl : k = 0 ∨ k = 1 ∨ k = 2 ∨ k = 3 := by omega
          · have wk : IntKind.i64.wrap 1 = 1 := by decide
            obtain ⟨t1, t2, t3⟩ := ti0
            refine VW.run good [] ?_; simp (implicitDefEqProofs := false) [enc_list, t1, t2, t3, wk, spliceV]
            exact ⟨_, _, (hI _ _ _).2 ⟨rfl, rfl⟩, ⟨0, [], by simp [enc_list], by simp, by simp, by simp (implicitDefEqProofs := false) [enc_list], by simp (implicitDefEqProofs := false) [enc_list]⟩⟩
          · have wk : IntKind.i64.wrap 2 = 2 := by decide
            obtain ⟨t1, t2, t3⟩ := ti1
            refine VW.run good [] ?_; simp (implicitDefEqProofs := false) [enc_list, t1, t2, t3, wk, spliceV]
            exact ⟨_, _, (hI _ _ _).2 ⟨rfl, rfl⟩, ⟨0, [], by simp [enc_list], by simp, by simp, by simp (implicitDefEqProofs := false) [enc_list], by simp (implicitDefEqProofs := false) [enc_list]⟩⟩
          · have wk : IntKind.i64.wrap 3 = 3 := by decide
            obtain ⟨t1, t2, t3⟩ := ti2
            refine VW.run good [] ?_; simp (implicitDefEqProofs := false) [enc_list, t1, t2, t3, wk, spliceV]
            exact ⟨_, _, (hI _ _ _).2 ⟨rfl, rfl⟩, ⟨0, [], by simp [enc_list], by simp, by simp, by simp (implicitDefEqProofs := false) [enc_list], by simp (implicitDefEqProofs := false) [enc_list]⟩⟩
          · have wk : IntKind.i64.wrap 4 = 4 := by decide
            obtain ⟨t1, t2, t3⟩ := ti3
            refine VW.run good [] ?_; simp (implicitDefEqProofs := false) [enc_list, t1, t2, t3, wk, spliceV]
            exact ⟨_, _, (hI _ _ _).2 ⟨rfl, rfl⟩, ⟨0, [], by simp [enc_list], by simp, by simp, by simp (implicitDefEqProofs := false) [enc_list], by simp (implicitDefEqProofs := false) [enc_list]⟩⟩
        · intro f m hv
          obtain ⟨rfl, rfl⟩ := (hI _ _ _).1 hv
          refine VW.run good [] ?_; simp (implicitDefEqProofs := false) [enc_list]
          exact ⟨0, [], by simp [enc_list], by simp, by simp, by simp (implicitDefEqProofs := false) [enc_list], by simp (implicitDefEqProofs := false) [enc_list]⟩
      · simp (implicitDefEqProofs := false); refine .ofCut hc (VW.run good [] ?_); simp (implicitDefEqProofs := false) [enc_list, spliceV]
        refine VW.loop_to 6 [] [] (True) ?_ (fun hp f m hc => ?_)
        · obtain ⟨Inv, hI⟩ : ∃ Inv : Nat → List (Nat × PV) → VM → Prop, ∀ k f m, Inv k f m ↔ (f = [(33, .lst true 8 1 noV), (34, .int .i64 k)] ∧ m = []) := ⟨_, fun _ _ _ => Iff.rfl⟩
          refine VW.loop_cut Inv 8 ?_ ?_ ?_
          · exact ⟨_, _, (hI _ _ _).2 ⟨rfl, rfl⟩, ⟨0, [], by simp [enc_list], by simp, by simp, by simp (implicitDefEqProofs := false) [enc_list], by simp (implicitDefEqProofs := false) [enc_list]⟩⟩
          · intro k f m hk hv
            obtain ⟨rfl, rfl⟩ := (hI _ _ _).1 hv
            obtain rfl | rfl | rfl | rfl | rfl | rfl | rfl | rfl : k = 0 ∨ k = 1 ∨ k = 2 ∨ k = 3 ∨ k = 4 ∨ k = 5 ∨ k = 6 ∨ k = 7 := by omega
            · have wk : IntKind.i64.wrap 1 = 1 := by decide
              refine VW.run good [] ?_; simp (implicitDefEqProofs := false) [enc_list, no0, ds1, ds2g, wk, spliceV]
              exact ⟨_, _, (hI _ _ _).2 ⟨rfl, rfl⟩, ⟨0, [], by simp [enc_list], by simp, by simp, by simp (implicitDefEqProofs := false) [enc_list], by simp (implicitDefEqProofs := false) [enc_list]⟩⟩
            · have wk : IntKind.i64.wrap 2 = 2 := by decide
              refine VW.run good [] ?_; simp (implicitDefEqProofs := false) [enc_list, no1, ds1, ds2g, wk, spliceV]
              exact ⟨_, _, (hI _ _ _).2 ⟨rfl, rfl⟩, ⟨0, [], by simp [enc_list], by simp, by simp, by simp (implicitDefEqProofs := false) [enc_list], by simp (implicitDefEqProofs := false) [enc_list]⟩⟩
            · have wk : IntKind.i64.wrap 3 = 3 := by decide
              refine VW.run good [] ?_; simp (implicitDefEqProofs := false) [enc_list, no2, ds1, ds2g, wk, spliceV]
              exact ⟨_, _, (hI _ _ _).2 ⟨rfl, rfl⟩, ⟨0, [], by simp [enc_list], by simp, by simp, by simp (implicitDefEqProofs := false) [enc_list], by simp (implicitDefEqProofs := false) [enc_list]⟩⟩
            · have wk : IntKind.i64.wrap 4 = 4 := by decide
              refine VW.run good [] ?_; simp (implicitDefEqProofs := false) [enc_list, no3, ds1, ds2g, wk, spliceV]
              exact ⟨_, _, (hI _ _ _).2 ⟨rfl, rfl⟩, ⟨0, [], by simp [enc_list], by simp, by simp, by simp (implicitDefEqProofs := false) [enc_list], by simp (implicitDefEqProofs := false) [enc_list]⟩⟩
            · have wk : IntKind.i64.wrap 5 = 5 := by decide
              refine VW.run good [] ?_; simp (implicitDefEqProofs := false) [enc_list, no4, ds1, ds2g, wk, spliceV]
              exact ⟨_, _, (hI _ _ _).2 ⟨rfl, rfl⟩, ⟨0, [], by simp [enc_list], by simp, by simp, by simp (implicitDefEqProofs := false) [enc_list], by simp (implicitDefEqProofs := false) [enc_list]⟩⟩
            · have wk : IntKind.i64.wrap 6 = 6 := by decide
              refine VW.run good [] ?_; simp (implicitDefEqProofs := false) [enc_list, no5, ds1, ds2g, wk, spliceV]
              exact ⟨_, _, (hI _ _ _).2 ⟨rfl, rfl⟩, ⟨0, [], by simp [enc_list], by simp, by simp, by simp (implicitDefEqProofs := false) [enc_list], by simp (implicitDefEqProofs := false) [enc_list]⟩⟩
            · have wk : IntKind.i64.wrap 7 = 7 := by decide
              refine VW.run good [] ?_; simp (implicitDefEqProofs := false) [enc_list, no6, ds1, ds2g, wk, spliceV]
              exact ⟨_, _, (hI _ _ _).2 ⟨rfl, rfl⟩, ⟨0, [], by simp [enc_list], by simp, by simp, by simp (implicitDefEqProofs := false) [enc_list], by simp (implicitDefEqProofs := false) [enc_list]⟩⟩
            · have wk : IntKind.i64.wrap 8 = 8 := by decide
              refine VW.run good [] ?_; simp (implicitDefEqProofs := false) [enc_list, no7, ds1, ds2g, wk, spliceV]
              exact ⟨_, _, (hI _ _ _).2 ⟨rfl, rfl⟩, ⟨0, [], by simp [enc_list], by simp, by simp, by simp (implicitDefEqProofs := false) [enc_list], by simp (implicitDefEqProofs := false) [enc_list]⟩⟩
          · intro f m hv
            obtain ⟨rfl, rfl⟩ := (hI _ _ _).1 hv
            refine VW.run good [] ?_; simp (implicitDefEqProofs := false) [enc_list]
            exact ⟨0, [], by simp [enc_list], by simp, by simp, by simp (implicitDefEqProofs := false) [enc_list], by simp (implicitDefEqProofs := false) [enc_list]⟩
        · obtain ⟨e5, e6⟩ := knp
          obtain ⟨⟨pl, pe⟩, hP⟩ : ∃ p, PlanPR bookC textC 0 30 = p := ⟨_, rfl⟩
          rw [hP] at e5 e6
          simp only at e5 e6
          simp (implicitDefEqProofs := false); refine .ofCut hc (VW.run good [] ?_); simp (implicitDefEqProofs := false) [enc_list, kn0, kn1, kn2, kn3, kn4, kn5, kn6, kn7, kn8, kn9, kn10, kn11, kn12, kn13, kn14, kn15, hP, e5, e6, dt1, dt7, di1, di2, di3, di4, ds2g, spliceV]
end Go.RS.DC

