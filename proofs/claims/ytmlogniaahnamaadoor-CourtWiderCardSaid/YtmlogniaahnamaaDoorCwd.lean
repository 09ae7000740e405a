/- Walks: the program (24): a sorted list without a number twice. -/
import Derived.Test.YtmlogniaahnamaaDoorCwc
import Derived.Test.YtmlogniaahnamaaDoorDxc
set_option linter.all false
namespace Go.RS.DC
open Go Go.RS
open Go.RS.Enc (enc dec)
variable {E : VEnv}
def climbB : List Int → Bool
  | x :: y :: l => decide (x < y) && climbB (y :: l)
  | _ => true
theorem climb_ne : ∀ (l : List Int), climbB l = true → ∀ (k : Nat) (h : k + 1 < l.length), l[k + 1] ≠ l[k]
  | x :: y :: l, h, 0, hk => by
    simp only [climbB, Bool.and_eq_true, decide_eq_true_eq] at h
    simp only [List.getElem_cons_succ, List.getElem_cons_zero]
    omega
  | x :: y :: l, h, k + 1, hk => by
    simp only [climbB, Bool.and_eq_true, decide_eq_true_eq] at h
    have := climb_ne (y :: l) h.2 k (by simpa using hk)
    simpa using this
  | [x], h, k, hk => by simp at hk
  | [], h, k, hk => by simp at hk
theorem climb_of : ∀ {l : List Int}, l.Pairwise (· < ·) → climbB l = true
  | [], _ => rfl
  | [x], _ => rfl
  | x :: y :: l, h => by
    rw [List.pairwise_cons] at h
    simp only [climbB, Bool.and_eq_true, decide_eq_true_eq]
    exact ⟨h.1 y (by simp), climb_of h.2⟩
def compF (l : List Int) : Option (List Int) := if climbB l = true ∧ l.length ≤ 1000 then some l else none
set_option maxRecDepth 20000 in
theorem k_Compact (hE : E.env.fn = G) : Ok E 54 (s1 compF) := by
  refine ok1 fun l r hr => ?_
  unfold compF at hr
  split at hr
  · rename_i hc
    cases hr
    obtain ⟨hc, hl⟩ := hc
    by_cases h2 : l.length < 2
    · have h2' : (l.length : Int) < 2 := by omega
      refine VP.run (A := F54) (goodV_nil) [] (by rw [hE]; rfl) (by simp [F54]) ?_; unfold F54; simp (implicitDefEqProofs := false) [enc_list, h2, h2']
    · have h2' : ¬ (l.length : Int) < 2 := by omega
      refine VP.run (A := F54) (goodV_nil) [] (by rw [hE]; rfl) (by simp [F54]) ?_; unfold F54; simp (implicitDefEqProofs := false) [enc_list, h2, h2']
      refine VW.loop_to 0 [(0, enc l)] [] (True) ?_ (fun hp f m hc => ?_)
      · obtain ⟨Inv, hI⟩ : ∃ Inv : Nat → List (Nat × PV) → VM → Prop, ∀ k f m, Inv k f m ↔ (f = [(0, enc l), (3, .int .i64 ((k : Int) + 1))] ∧ m = []) := ⟨_, fun _ _ _ => Iff.rfl⟩
        refine VW.loop_cut Inv (l.length - 1) ?_ ?_ ?_
        · exact ⟨_, _, (hI _ _ _).2 ⟨rfl, rfl⟩, ⟨0, [], by simp [enc_list], by simp, by simp, by simp (implicitDefEqProofs := false) [enc_list], by simp (implicitDefEqProofs := false) [enc_list]⟩⟩
        · intro k f m hk hi
          obtain ⟨rfl, rfl⟩ := (hI _ _ _).1 hi
          have k1 : k + 1 < l.length := by omega
          have k2 : (k : Int) + 1 < l.length := by omega
          have k0 : k < l.length := by omega
          have k0' : (k : Int) < l.length := by omega
          have w1 : IntKind.i64.wrap ((k : Int) + 1 + 1) = (k : Int) + 1 + 1 := wrap64 (by omega) (by omega)
          have w2 : IntKind.i64.wrap (k : Int) = (k : Int) := wrap64 (by omega) (by omega)
          have hne := climb_ne l hc k k1
          have g1 := get_Int l (k + 1) k1
          have g0 := get_Int l k k0
          have ek : ((k : Int) + 1).toNat = k + 1 := by omega
          have hp : (0 : Int) ≤ (k : Int) + 1 := by omega
          refine VW.run goodV_nil [] ?_; simp (implicitDefEqProofs := false) [enc_list, k1, k2, k0, k0', w1, w2, g1, g0, hne, ek, hp]
          refine VW.run goodV_nil [] ?_; simp (implicitDefEqProofs := false) [enc_list, w1]
          exact ⟨_, _, (hI _ _ _).2 ⟨rfl, rfl⟩, ⟨0, [], by simp [enc_list], by simp, by simp, by simp (implicitDefEqProofs := false) [enc_list], by simp (implicitDefEqProofs := false) [enc_list]⟩⟩
        · intro f m hi
          obtain ⟨rfl, rfl⟩ := (hI _ _ _).1 hi
          have hn : ¬ ((l.length - 1 : Nat) : Int) + 1 < l.length := by omega
          refine VW.run goodV_nil [] ?_; simp (implicitDefEqProofs := false) [enc_list, hn]
          exact ⟨0, [], by simp [enc_list], by simp, by simp, by simp (implicitDefEqProofs := false) [enc_list], by simp (implicitDefEqProofs := false) [enc_list]⟩
      · simp (implicitDefEqProofs := false); refine .ofCut hc (VW.run goodV_nil [] ?_); simp (implicitDefEqProofs := false) [enc_list]
  · cases hr
end Go.RS.DC

/- Walks: the program (25): When, while few are found and none twice. -/
namespace Go.RS.DC
open Go Go.RS
open Go.RS.Enc (enc dec)
variable {E : VEnv}
def rawI (p : Int → Bool) (n : Int) : Nat → Int → List Int
  | 0, _ => []
  | q + 1, off => if p off then (n - off) :: rawI p n q (off + 1) else rawI p n q (off + 1)
theorem offsL_cons {lo hi : Int} (h : lo ≤ hi) : offsL lo hi = lo :: offsL (lo + 1) hi := by
  unfold offsL
  obtain ⟨m, hm⟩ : ∃ m, (hi - lo + 1).toNat = m + 1 := ⟨(hi - lo).toNat, by omega⟩
  rw [hm, show (hi - (lo + 1) + 1).toNat = m by omega, List.range_succ_eq_map, List.map_cons, List.map_map]
  congr 1
  · simp
  · apply List.map_congr_left
    intro i _
    simp only [Function.comp_apply]
    omega
theorem rawI_eq (p : Int → Bool) (n : Int) : ∀ (q : Nat) (off : Int), rawI p n q off = ((offsL off (off + q - 1)).filter p).map fun o => n - o
  | 0, off => by
    have : offsL off (off + (0 : Nat) - 1) = [] := by unfold offsL; rw [show (off + ((0 : Nat) : Int) - 1 - off + 1).toNat = 0 by omega]; rfl
    rw [this]; rfl
  | q + 1, off => by
    rw [rawI, rawI_eq p n q (off + 1), offsL_cons (lo := off) (hi := off + ((q + 1 : Nat) : Int) - 1) (by omega), List.filter_cons, show off + 1 + (q : Int) - 1 = off + ((q + 1 : Nat) : Int) - 1 by omega]
    split <;> rfl
def pW (c : Case) (n off : Int) : Bool := isTickK c (n - off) && foundB c (saysK c) anyA (fullK c) (stageN c (n - off)) off
def rawO (c : Case) (l : List Int) : List Int := l.flatMap fun n => rawI (pW c n) n 61 (-30)
theorem raw_eq (c : Case) (r : Reading) : rawL c r = rawO c (ticksR c.Calendar c.Town r) := by
  unfold rawL rawO
  congr 1
  funext n
  rw [rawI_eq]
  rfl
theorem sortU_of {l l' : List Int} (hp : l'.Perm l) (hs : l'.Pairwise (· ≤ ·)) (hn : l.Nodup) : l' = sortU l ∧ climbB l' = true := by
  have h1 : l'.Pairwise (· < ·) := by
    have h2 : l'.Nodup := hp.nodup_iff.2 hn
    have := List.pairwise_and_iff.2 ⟨hs, h2⟩
    exact this.imp fun h => by omega
  refine ⟨?_, climb_of h1⟩
  have key : ∀ {a b : List Int}, a.Pairwise (· < ·) → b.Pairwise (· < ·) → (∀ x, x ∈ a ↔ x ∈ b) → a = b := by
    intro a
    induction a with
    | nil => intro b _ _ h; cases b with | nil => rfl | cons y b => exact absurd ((h y).2 (by simp)) (by simp)
    | cons x a ih =>
      intro b ha hb h
      cases b with
      | nil => exact absurd ((h x).1 (by simp)) (by simp)
      | cons y b =>
        rw [List.pairwise_cons] at ha hb
        have hxy : x = y := by
          rcases List.mem_cons.1 ((h x).1 (by simp)) with h1 | h1
          · exact h1
          · rcases List.mem_cons.1 ((h y).2 (by simp)) with h2 | h2
            · exact h2.symm
            · have := ha.1 y h2; have := hb.1 x h1; omega
        subst hxy
        congr 1
        refine ih ha.2 hb.2 fun z => ⟨fun hz => ?_, fun hz => ?_⟩
        · rcases List.mem_cons.1 ((h z).1 (by simp [hz])) with h1 | h1
          · have := ha.1 z hz; omega
          · exact h1
        · rcases List.mem_cons.1 ((h z).2 (by simp [hz])) with h1 | h1
          · have := hb.1 z hz; omega
          · exact h1
  exact key h1 (sortU_sorted l) fun x => by rw [mem_sortU, hp.mem_iff]
def WhenF (c : Case) (r : Reading) : Option (List Int × Int) := if askedK c true = 0 → (rawL c r).Nodup ∧ (rawL c r).length ≤ 12 then some (WhenR c r) else none
end Go.RS.DC

/- Walks: the program (26): When, while few are found and none twice. -/
namespace Go.RS.DC
open Go Go.RS
open Go.RS.Enc (enc dec)
variable {E : VEnv}
set_option maxHeartbeats 3200000 in
set_option maxRecDepth 20000 in
theorem k_When (hE : E.env.fn = G) (hgl : E.gl 1 = some [f130v, f131v]) : Ok E 18 (s2 fun (c : Case) (r : Reading) => WhenF c r) := by
  refine ok2 fun c rd r hr => ?_
  unfold WhenF at hr
  split at hr
  rotate_left
  · cases hr
  rename_i hfew
  cases hr
  refine VP.func (A := F18) (by rw [hE]; rfl) (by simp [F18]) ?_; unfold F18
  refine VW.seq (VW.run goodV_nil [] ?_); simp (implicitDefEqProofs := false) [enc_list]
  refine VW.seq (VW.run goodV_nil [] ?_)
  simp (implicitDefEqProofs := false) [enc_list]
  unfold VCo
  refine vc_asked hE hgl (n := 2) (M := [ccl c, .cells (rcells rd)]) (rcap := []) (b := true) rfl ?_ rfl (fun ho M' h1 h2 K hK => al_anything hE hK) (fun ha ext => ?_) (fun ho ha es cl F es2 cl2 ext g1 g2 g3 g4 => ?_)
  · intro y hy
    simp only [List.mem_cons, List.not_mem_nil, or_false] at hy
    rcases hy with rfl | rfl <;> simp (implicitDefEqProofs := false) [enc_list]
  · have hE0 : WhenR c rd = ([], askedK c true) := if_neg ha
    generalize askedK c true = e at *
    generalize hP : [ccl c, VObj.cells (rcells rd)] ++ ext = P
    generalize hm : P.length = b0
    simp (implicitDefEqProofs := false) [enc_list, hm, get_pre hm, get_pre0 hm, set_pre hm, spliceV]
    refine VW.run goodV_nil [] ?_
    simp (implicitDefEqProofs := false) [enc_list, hm, get_pre hm, get_pre0 hm, set_pre hm, spliceV, ha, hE0]
  · have hE1 : WhenR c rd = (whenL c rd, 0) := if_pos ha
    obtain ⟨hnd, h12⟩ := hfew ha
    have o := okK_ok ho
    have l6 := o.l6
    have a1 := o.a1
    have a2 := o.a2
    have e1 := o.e1
    have st := o.st
    rw [hE1]
    obtain ⟨P, hP⟩ : ∃ P, [ccl c, VObj.cells (rcells rd)] ++ (askC c 2 es cl F es2 cl2 ++ ext) = P := ⟨_, rfl⟩
    rw [hP]
    generalize hm : P.length = b0
    simp (implicitDefEqProofs := false) [enc_list, hm, get_pre hm, get_pre0 hm, set_pre hm, spliceV]
    refine VW.seq (VW.run goodV_nil [] ?_); simp (implicitDefEqProofs := false) [enc_list]
    have hm16 : b0 = ext.length + 16 := by rw [← hm, ← hP]; simp
    have hm0 : 0 < b0 := by omega
    have hm11 : 11 < b0 := by omega
    obtain ⟨P1, hP1⟩ : ∃ P1 : VM, [ccl c, VObj.cells (rcells rd)] ++ askC c 2 es cl F es2 cl2 ++ (List.replicate ext.length .gone ++ [.cells (triC c (allR c.Calendar) 6)]) = P1 := ⟨_, rfl⟩
    have hl1 : P1.length = b0 + 1 := by rw [← hP1, hm16]; simp
    have hP1c : P1[0]? = some (ccl c) := by rw [← hP1]; rfl
    have hP1x : P1[1]? = some (.cells (rcells rd)) := by rw [← hP1]; rfl
    have hP1f : P1[11]? = some (.vec (foundC F (lastN c + 1))) := by rw [← hP1]; rfl
    have hP1t : P1[b0]? = some (.cells (triC c (allR c.Calendar) 6)) := by
      rw [← hP1, ← List.append_assoc]
      rw [List.getElem?_append_right (by simp; omega)]
      simp [hm16]
    have hP1u : ∀ o ∈ P1, o.und (b0 + 1) := fun y hy => by
      rw [← hP1] at hy
      rcases List.mem_append.1 hy with hy | hy
      · rcases List.mem_append.1 hy with hy | hy
        · simp only [List.mem_cons, List.not_mem_nil, or_false] at hy
          rcases hy with rfl | rfl <;> simp (implicitDefEqProofs := false) [enc_list]
        · exact askC_und g1 g3 (by omega) y hy
      · rcases List.mem_append.1 hy with hy | hy
        · rw [List.mem_replicate] at hy; rw [hy.2]; trivial
        · rw [List.mem_singleton] at hy; subst hy
          simp (implicitDefEqProofs := false) [enc_list]; omega
    obtain ⟨fs, hfs⟩ : ∃ fs : PV, fs = .sl 11 ((lastN c + 1) * 61) 0 (lastN c + 1) (lastN c + 1) 61 := ⟨_, rfl⟩
    refine .ofCut (l := [(2, .ptr 0 12 0), (3, .ptr 1 4 0), (6, .ptr b0 14 0), (7, fs)]) (M := P1) ?_ ?_
    · rw [← hP1, ← hP, ← List.append_assoc, List.append_assoc, hfs]
      refine cut_mid (n := b0 + 1) (by rw [hm16]; simp) (Nat.zero_le _) ?_ ?_ (by simp (implicitDefEqProofs := false) [hm0]; omega)
      · intro y hy
        exact hP1u y (by rw [← hP1]; exact List.mem_append_left _ hy)
      · intro y hy
        exact hP1u y (by rw [← hP1]; exact List.mem_append_right _ (List.mem_append_right _ hy))
    have hT : TicksR c.Calendar c.Town rd = (ticksR c.Calendar c.Town rd, 0) := by unfold TicksR; rw [if_pos o.ct]
    have hin : ∀ t ∈ ticksR c.Calendar c.Town rd, 0 ≤ t ∧ t < allR c.Calendar := fun t ht => by have := (mem_ticksR o.o o.ot rd t).1 ht; exact ⟨this.1, this.2.1⟩
    have hll := ticksR_len o.ct rd
    have hraw := raw_eq c rd
    unfold whenL
    generalize rawL c rd = T at *
    generalize ticksR c.Calendar c.Town rd = L at *
    have good := goodV_cons (w_TicksP hE hgl) (goodV_cons (k_lies hE) (goodV_cons (k_stage hE) (goodV_cons (k_Compact hE) goodV_nil)))
    have hc0 : ∀ (X : VM) (h : 0 < (P1 ++ X).length), (P1 ++ X)[0]'h = ccl c := fun X h => by
      have := get_hr hP1c X
      rw [List.getElem?_eq_getElem h] at this
      exact Option.some.inj this
    have hc1 : ∀ (X : VM) (h : 1 < (P1 ++ X).length), (P1 ++ X)[1]'h = .cells (rcells rd) := fun X h => by
      have := get_hr hP1x X
      rw [List.getElem?_eq_getElem h] at this
      exact Option.some.inj this
    refine VW.seq (VW.run goodV_nil [] ?_); simp (implicitDefEqProofs := false) [enc_list]
    refine VW.declare 9 1 (by simp) ?_
    rw [hl1]
    refine VW.seq (VW.run good [] ?_); simp (implicitDefEqProofs := false) [enc_list, get_hr hP1c, get_hr hP1x, hc0, hc1, hT]
    refine VW.seq (VW.run good [] ?_); simp (implicitDefEqProofs := false) [enc_list]
    have hu2 : ∀ (out : List Int) (j : Nat), b0 + 1 ≤ j → ∀ o ∈ P1 ++ [VObj.vec (encL out)], o.und j := fun out j hj o ho => by
      rcases List.mem_append.1 ho with ho | ho
      · exact objs_any hj (hP1u o ho)
      · rw [List.mem_singleton] at ho; subst ho; trivial
    have hfu : ∀ j, b0 + 1 ≤ j → fs.und j = true := fun j hj => by rw [hfs]; simp (implicitDefEqProofs := false); omega
    refine VW.loop_to 0 [(9, sl1 (b0 + 1) T)] (P1 ++ [.vec (encL T)]) (True) ?_ (fun hp f m hc => ?_)
    · obtain ⟨Inv, hI⟩ : ∃ Inv : Nat → List (Nat × PV) → VM → Prop, ∀ i f mm, Inv i f mm ↔ (∃ out : List Int, f = [(6, .ptr b0 14 0), (7, fs), (9, sl1 (b0 + 1) out), (34, enc L), (35, .int .i64 L.length), (36, .int .i64 i)] ∧ mm = P1 ++ [.vec (encL out)] ∧ out.length ≤ 61 * i ∧ T = out ++ rawO c (L.drop i)) := ⟨_, fun _ _ _ => Iff.rfl⟩
      refine VW.loop_cut Inv L.length ?_ ?_ ?_
      · refine ⟨_, _, (hI _ _ _).2 ⟨[], rfl, rfl, Nat.le_refl _, by rw [List.drop_zero]; exact hraw⟩, cut_all (Nat.zero_le _) ?_ ?_⟩
        · have := hu2 [] (b0 + 2) (by omega)
          simpa [hl1] using this
        · have := hfu (b0 + 2) (by omega)
          simp (implicitDefEqProofs := false) [enc_list, hl1, this]
          exact ⟨by omega, le_refl _⟩
      · intro i f mm hi hv
        obtain ⟨out, rfl, rfl, hol, hs⟩ := (hI _ _ _).1 hv
        have w1 : IntKind.i64.wrap ((i : Int) + 1) = i + 1 := wrap64 (by omega) (by omega)
        have hi' : (i : Int) < L.length := by omega
        rw [List.drop_eq_getElem_cons hi] at hs
        have hb := hin _ (List.getElem_mem hi)
        have hg := get_Int L i hi
        generalize L[i] = n at *
        have hs : T = out ++ (rawI (pW c n) n 61 (-30) ++ rawO c (L.drop (i + 1))) := hs
        refine VW.run good [] ?_; simp (implicitDefEqProofs := false) [enc_list, hi, hi', hg]
        refine VW.loop_toE 2 (fun (w : List Int) => [(6, .ptr b0 14 0), (7, fs), (9, sl1 (b0 + 1) w), (34, enc L), (35, .int .i64 L.length), (36, .int .i64 i)]) (fun (w : List Int) => (P1 ++ [.vec (encL w)])) (fun (w : List Int) => w.length ≤ 61 * (i + 1) ∧ T = w ++ rawO c (L.drop (i + 1))) ?_ (fun w hp f m hc => ?_)
        · have hcut2 : ∀ (fr : VFr) (out : List Int) (off : Int) (X : VM), (∀ p ∈ [(6, PV.ptr b0 14 0), (7, fs), (9, sl1 (b0 + 1) out), (13, .int .i64 n), (14, .int .i64 off), (34, enc L), (35, .int .i64 L.length), (36, .int .i64 i)], (fr p.1).le p.2) → Cut 0 fr (P1 ++ (.vec (encL out) :: X)) [(6, .ptr b0 14 0), (7, fs), (9, sl1 (b0 + 1) out), (13, .int .i64 n), (14, .int .i64 off), (34, enc L), (35, .int .i64 L.length), (36, .int .i64 i)] (P1 ++ [.vec (encL out)]) := fun fr out off X h => by
            refine cutY (j := b0 + 2) (X := [.vec (encL out)]) (by simp [hl1]) (Nat.zero_le _) (hu2 out _ (by omega)) fun p hp => ⟨h p hp, ?_⟩
            simp only [List.mem_cons, List.not_mem_nil, or_false] at hp
            rcases hp with rfl | rfl | rfl | rfl | rfl | rfl | rfl | rfl
            · simp (implicitDefEqProofs := false)
            · exact hfu _ (by omega)
            · simp (implicitDefEqProofs := false)
            · rfl
            · rfl
            · simp (implicitDefEqProofs := false) [enc_list]
            · rfl
            · rfl
          obtain ⟨Inv2, hI2⟩ : ∃ Inv : Nat → List (Nat × PV) → VM → Prop, ∀ q f m', Inv q f m' ↔ (∃ out : List Int, f = [(6, .ptr b0 14 0), (7, fs), (9, sl1 (b0 + 1) out), (13, .int .i64 n), (14, .int .i64 (-30 + (q : Int))), (34, enc L), (35, .int .i64 L.length), (36, .int .i64 i)] ∧ m' = P1 ++ [.vec (encL out)] ∧ out.length ≤ 61 * i + q ∧ T = out ++ (rawI (pW c n) n (61 - q) (-30 + (q : Int)) ++ rawO c (L.drop (i + 1)))) := ⟨_, fun _ _ _ => Iff.rfl⟩
          refine VW.loop_cut Inv2 61 ?_ ?_ ?_
          · refine ⟨_, _, (hI2 _ _ _).2 ⟨out, rfl, rfl, by omega, hs⟩, hcut2 _ out (-30) [] ?_⟩
            simp (implicitDefEqProofs := false) [enc_list]
            exact le_refl _
          · intro q f mm hq hv2
            obtain ⟨out, rfl, rfl, hol, hs⟩ := (hI2 _ _ _).1 hv2
            rw [show 61 - q = (61 - (q + 1)) + 1 by omega, rawI] at hs
            obtain ⟨off, hoff⟩ : ∃ off, -30 + (q : Int) = off := ⟨_, rfl⟩
            have hoff2 : -30 + ((q + 1 : Nat) : Int) = off + 1 := by omega
            have hq30 : off ≤ 30 := by omega
            have wo : IntKind.i64.wrap (off + 1) = off + 1 := wrap64 (by omega) (by omega)
            have wt : IntKind.i64.wrap (n - off) = n - off := wrap64 (by omega) (by omega)
            have wa : IntKind.i64.wrap (allR c.Calendar - 1) = allR c.Calendar - 1 := wrap64 (by omega) (by omega)
            rw [hoff] at hs ⊢
            have hpw : pW c n off = (isTickK c (n - off) && foundB c (saysK c) anyA (fullK c) (stageN c (n - off)) off) := rfl
            cases hw : wi (n - off) 0 (allR c.Calendar - 1)
            · have hpf : pW c n off = false := by rw [hpw]; unfold isTickK; rw [hw]; rfl
              rw [hpf, if_neg (by simp)] at hs
              refine VW.run good [] ?_; simp (implicitDefEqProofs := false) [enc_list, hq30, wt, wo, wa, get_hr hP1t, hw]
              refine ⟨_, _, (hI2 (q + 1) _ _).2 ⟨out, rfl, rfl, by omega, by rw [hoff2]; exact hs⟩, ?_⟩
              rw [hoff2]
              refine hcut2 _ out (off + 1) [] ?_
              simp (implicitDefEqProofs := false) [enc_list]
              exact le_refl _
            · obtain ⟨t0, t1⟩ := (wi_iff _ _ _).1 hw
              obtain ⟨s0, s1'⟩ := stage_le o t0 (show n - off < allR c.Calendar by omega)
              have hst : stageF (triK c (allR c.Calendar)) (n - off) = some ((stageN c (n - off) : Nat) : Int) := by
                have : ((stageN c (n - off) : Nat) : Int) = (n - off) / c.Each := by unfold stageN; omega
                rw [this]; exact if_pos ⟨e1, t0, by omega⟩
              have hskl : stageN c (n - off) < lastN c + 1 := by unfold stageN; omega
              have hsk2 : ((stageN c (n - off) : Nat) : Int) < (lastN c : Int) + 1 := by omega
              have hpf : pW c n off = F (stageN c (n - off)) off := by rw [hpw, g2 _ (by omega)]; unfold isTickK; rw [hw]; rfl
              rw [hpf] at hs
              generalize stageN c (n - off) = k at *
              obtain ⟨xi, hxi⟩ : ∃ xi : Nat, off + 30 = (xi : Int) := ⟨(off + 30).toNat, by omega⟩
              have wx : IntKind.i64.wrap (off + 30) = (xi : Int) := by rw [wrap64 (by omega) (by omega), hxi]
              have hxi61 : xi < 61 := by omega
              have hx61 : (xi : Int) < 61 := by omega
              have hl61 := foundC_len F (lastN c + 1)
              have hlt : k * 61 + xi < (lastN c + 1) * 61 := by have := Nat.mul_le_mul_right 61 (show k + 1 ≤ lastN c + 1 by omega); omega
              have hle61 : k * 61 + 61 ≤ (lastN c + 1) * 61 := by have := Nat.mul_le_mul_right 61 (show k + 1 ≤ lastN c + 1 by omega); omega
              have hfg : (foundC F (lastN c + 1))[k * 61 + xi]? = some (.bool (F k off)) := by
                unfold foundC
                rw [List.getElem?_map, List.getElem?_range hlt]
                have e1 : (k * 61 + xi) / 61 = k := by omega
                have e2 : (k * 61 + xi) % 61 = xi := by omega
                simp only [Option.map_some, e1, e2]
                rw [show ((xi : Nat) : Int) - 30 = off by omega]
              have hfg2 : ∀ h : k * 61 + xi < (foundC F (lastN c + 1)).length, (foundC F (lastN c + 1))[k * 61 + xi]'h = .bool (F k off) := fun h => by
                rw [List.getElem?_eq_getElem h] at hfg
                exact Option.some.inj hfg
              have hf8 : fits (out.length + 1) 8 = true := fits8L (by omega)
              cases hF : F k off
              · rw [hF] at hs hfg hfg2
                rw [if_neg (by simp)] at hs
                refine VW.run good [] ?_; simp (implicitDefEqProofs := false) [enc_list, hq30, wt, wo, wa, get_hr hP1t, hw, hst, hfs, get_hr hP1f, wx, hskl, hsk2, hx61, hxi61, hl61, hlt, hle61, hfg, hfg2]
                refine ⟨_, _, (hI2 (q + 1) _ _).2 ⟨out, rfl, rfl, by omega, by rw [hoff2]; exact hs⟩, ?_⟩
                rw [hoff2]
                refine hcut2 _ out (off + 1) [] ?_
                simp (implicitDefEqProofs := false) [enc_list, hfs]
              · rw [hF] at hs hfg hfg2
                rw [if_pos rfl] at hs
                refine VW.run good [] ?_; simp (implicitDefEqProofs := false) [enc_list, hq30, wt, wo, wa, get_hr hP1t, hw, hst, hfs, get_hr hP1f, wx, hskl, hsk2, hx61, hxi61, hl61, hlt, hle61, hfg, hfg2, hf8, get_pre0 hl1, set_pre0 hl1, spliceV]
                have e1 : (out ++ [n - off]).length = out.length + 1 := by simp
                refine ⟨_, _, (hI2 (q + 1) _ _).2 ⟨out ++ [n - off], rfl, rfl, by rw [e1]; omega, by rw [hoff2, hs]; simp⟩, ?_⟩
                rw [hoff2]
                refine hcut2 _ (out ++ [n - off]) (off + 1) [] ?_
                simp (implicitDefEqProofs := false) [enc_list, hfs]
          · intro f mm hv2
            obtain ⟨out, rfl, rfl, hol, hs⟩ := (hI2 _ _ _).1 hv2
            refine VW.run good [] ?_; simp (implicitDefEqProofs := false) [enc_list]
            refine ⟨out, ⟨by omega, hs⟩, cutY (j := b0 + 2) (X := [.vec (encL out)]) (ext := []) (by simp [hl1]) (Nat.zero_le _) (hu2 out _ (by omega)) ?_⟩
            have := hfu (b0 + 2) (by omega)
            simp (implicitDefEqProofs := false) [enc_list, this]
            exact le_refl _
        · simp (implicitDefEqProofs := false) [enc_list, AExit.leave]
          refine .ofCut hc (VW.run good [] ?_)
          simp (implicitDefEqProofs := false) [enc_list, w1]
          refine ⟨_, _, (hI _ _ _).2 ⟨w, rfl, rfl, hp.1, hp.2⟩, cut_all (Nat.zero_le _) ?_ ?_⟩
          · have := hu2 w (b0 + 2) (by omega)
            simpa [hl1] using this
          · have := hfu (b0 + 2) (by omega)
            simp (implicitDefEqProofs := false) [enc_list, hl1, this]
            exact ⟨by omega, le_refl _⟩
      · intro f mm hv
        obtain ⟨out, rfl, rfl, hol, hs⟩ := (hI _ _ _).1 hv
        rw [List.drop_length] at hs
        have hs2 : T = out := by rw [hs]; simp [rawO]
        subst hs2
        refine VW.run good [] ?_; simp (implicitDefEqProofs := false) [enc_list]
        refine cut_all (Nat.zero_le _) ?_ ?_
        · have := hu2 T (b0 + 2) (by omega)
          simpa [hl1] using this
        · simp (implicitDefEqProofs := false) [hl1]
    · simp (implicitDefEqProofs := false) [enc_list]
      refine .ofCut hc (VW.seq (VW.run good [] ?_))
      simp (implicitDefEqProofs := false) [enc_list]
      unfold VCo
      refine vc_sort (l := T) (t := b0 + 1) hE rfl (by rw [get_pre0 hl1]; rfl) h12 ?_ fun l' hp hs => ?_
      · have := hu2 T (b0 + 2) (by omega)
        simpa [hl1] using this
      · obtain ⟨hl', hcl⟩ := sortU_of hp hs hnd
        have hcomp : compF l' = some l' := if_pos ⟨hcl, by rw [hp.length_eq]; omega⟩
        have hpl := hp.length_eq
        have hsl : sl1 (b0 + 1) T = sl1 (b0 + 1) l' := by unfold sl1; rw [hpl]
        rw [← hl', hsl]
        simp (implicitDefEqProofs := false) [enc_list, set_pre0 hl1]
        refine VW.freeze (t := b0 + 1) (len := l'.length) (o := 0) (q := l'.length) (cap := openCap + 1) (e := 1) 9 (by simp) (.ofCut (l := [(9, enc l')]) (M := []) ⟨0, [], by simp [enc_list,  get_pre0 hl1, take_al], by simp, by simp, by simp (implicitDefEqProofs := false) [enc_list,  get_pre0 hl1, take_al], by simp (implicitDefEqProofs := false) [enc_list,  get_pre0 hl1, take_al]⟩ ?_)
        refine VW.run good [] ?_; simp (implicitDefEqProofs := false) [enc_list, hcomp, slV_al, take_al]
end Go.RS.DC

