/- The chapter voice, as plain functions (8): the law of the pieces that are needed. -/
import Derived.Test.YtcbkaiakncbcbaaDoorVpa
set_option linter.all false
namespace Go.RS.DC
open Go Go.RS
open Go.RS.Enc (enc dec)
end Go.RS.DC

/- The chapter voice, as plain functions (9): the laws of plans that are chosen, later ones and wider ones. -/
namespace Go.RS.DC
open Go Go.RS
open Go.RS.Enc (enc dec)
/-! ### Plans from another time on -/
theorem plan_from {b : Book} {text : List Int} {from_ from' pip : Int} {l : List Start} (h : PlanP b text from_ pip l) (hl : from' ≤ from_) : PlanP b text from' pip l :=
  ⟨h.1, fun s hs => by have := h.2 s hs; omega⟩
/-- From its own beginning on. -/
theorem plan_own {b : Book} (o : BookOk b) {text : List Int} {from_ pip : Int} {s : Start} {l : List Start} (h : PlanP b text from_ pip (s :: l)) : PlanP b text s.At pip (s :: l) ∧ s.At < pip := by
  obtain ⟨h1, h2, h3, h4⟩ := (plan_cons o).1 h
  obtain ⟨g1, g2, g3⟩ := cont_pip o h4
  have l1 := (step_piece o h3).1.l1
  have := g2 _ rfl
  exact ⟨(plan_cons o).2 ⟨Int.le_refl _, h2, h3, h4⟩, by omega⟩
theorem asked_of {b : Book} (ho : okB b = true) {text : List Int} (hw : wordsOk text 8 = true) {from_ pip : Int} (h0 : 0 ≤ from_) (h1 : from_ ≤ pip) (h2 : pip ≤ 100000000) (h3 : pip - from_ ≤ 6100) : askedV b text from_ pip = 0 := by
  unfold askedV
  rw [if_pos ho, if_pos hw, if_pos]
  unfold timesOk
  simp only [Bool.and_eq_true, wi_iff, decide_eq_true_eq]
  omega
theorem words_of {text : List Int} (hw : wordsOk text 8 = true) : 1 ≤ text.length ∧ text.length ≤ 8 := by
  simp only [wordsOk, Bool.and_eq_true, wi_iff] at hw
  omega
/-- What is told of a plan's own times. -/
theorem told {b : Book} (ho : okB b = true) {text : List Int} (hw : wordsOk text 8 = true) {from_ pip : Int} (h0 : 0 ≤ from_) (h1 : from_ ≤ pip) (h2 : pip ≤ 100000000) (h3 : pip - from_ ≤ 6100) :
    (PlanPR b text from_ pip = ([], 4) ∧ LatestPR b text from_ pip = (0, 4) ∧ (∀ m, ¬ PlanP b text from_ pip m)) ∨
    ∃ x l late, PlanPR b text from_ pip = (x :: l, 0) ∧ LatestPR b text from_ pip = (late, 0) ∧ PlanP b text from_ pip (x :: l) ∧ (∀ m, PlanP b text from_ pip m → (x :: l).length ≤ m.length) ∧
      (∃ s m, PlanP b text from_ pip (s :: m) ∧ s.At = late) ∧ ∀ s m, PlanP b text from_ pip (s :: m) → s.At ≤ late := by
  have ha := asked_of ho hw h0 h1 h2 h3
  have wl := words_of hw
  have ok := plan_ok (okB_ok ho) wl.1 wl.2 (from_ := from_) (pip := pip) h0
  unfold PlanPR LatestPR
  rw [if_pos ha, if_pos ha]
  cases hp : planF b text from_ pip with
  | none => exact .inl ⟨rfl, rfl, ok.none_ hp⟩
  | some r =>
    obtain ⟨l, late⟩ := r
    obtain ⟨g1, g2, g3, g4⟩ := ok.some_ l late hp
    cases l with
    | nil => exact absurd g1 (plan_ne wl.1)
    | cons x l => exact .inr ⟨x, l, late, rfl, rfl, g1, g2, g3, g4⟩
theorem isPlan_of {b : Book} (ho : okB b = true) {text : List Int} (hw : wordsOk text 8 = true) {from_ pip : Int} (h0 : 0 ≤ from_) (h1 : from_ ≤ pip) (h2 : pip ≤ 100000000) (h3 : pip - from_ ≤ 6100) {l : List Start} (hl : PlanP b text from_ pip l) : IsPlanR b text from_ pip l = (true, 0) := by
  unfold IsPlanR
  rw [if_pos (asked_of ho hw h0 h1 h2 h3), (planB_iff h0 l 0 none).2 hl]
/-- The law of the pip. -/
theorem pip_law {b : Book} (ho : okB b = true) {text : List Int} (hw : wordsOk text 8 = true) {from_ pip : Int} {y : Start} {plan : List Start} (h : PlanP b text from_ pip (y :: plan)) (h0 : 0 ≤ from_) (h2 : pip ≤ 100000000) (h3 : pip - from_ ≤ 6100) :
    ∃ x l late z m, PlanPR b text from_ pip = (x :: l, 0) ∧ IsPlanR b text from_ pip (x :: l) = (true, 0) ∧ LatestPR b text from_ pip = (late, 0) ∧ l.length ≤ plan.length ∧ y.At ≤ late ∧ x.At ≤ late ∧
      PlanPR b text late pip = (z :: m, 0) ∧ l.length ≤ m.length ∧ z.At = late ∧ late + 1 ≤ pip ∧ PlanPR b text (late + 1) pip = ([], 4) ∧ from_ ≤ late := by
  have o := okB_ok ho
  have hfp : from_ ≤ pip := by have := h.2 y (by simp); omega
  rcases told ho hw h0 hfp h2 h3 with ⟨_, _, hn⟩ | ⟨x, l, late, t1, t2, t3, t4, ⟨s, q, t5, rfl⟩, t6⟩
  · exact absurd h (hn _)
  · obtain ⟨u1, u2⟩ := plan_own o t5
    have u3 := t5.2 s (by simp)
    have hl : (x :: l).length ≤ (y :: plan).length := t4 _ h
    rcases told ho hw (from_ := s.At) (pip := pip) (by omega) (by omega) h2 (by omega) with ⟨_, _, hn⟩ | ⟨z, m, late', v1, v2, v3, v4, _, _⟩
    · exact absurd u1 (hn _)
    · have w1 := plan_from v3 u3.1
      have w2 := t6 _ _ w1
      have w3 := v3.2 z (by simp)
      have w4 := t4 _ w1
      have hx : s.At + 1 ≤ pip := by omega
      rcases told ho hw (from_ := s.At + 1) (pip := pip) (by omega) hx h2 (by omega) with ⟨r1, _, _⟩ | ⟨a, c, _, _, _, r3, _⟩
      · simp only [List.length_cons] at hl w4
        exact ⟨x, l, s.At, z, m, t1, isPlan_of ho hw h0 hfp h2 h3 t3, t2, by omega, t6 _ _ h, t6 _ _ t3, v1, by omega, by omega, hx, r1, u3.1⟩
      · have w5 := t6 _ _ (plan_from r3 (show from_ ≤ s.At + 1 by omega))
        have w6 := r3.2 a (by simp)
        omega
/-! ### A plan as numbers choose it -/
def spokeAt (b : Book) (first : Bool) (now : Int) (k : Int) : Int := (if first then now else now + b.Pause.Low) + ((pieceAt b k).Begin - (if first then now else now + b.Pause.Low)) % discOf b (pieceAt b k)
def spokenL (b : Book) : Bool → Int → List Int → Option (List Start × Int)
  | _, now, [] => some ([], now)
  | first, now, k :: l => if (!first && decide (b.Pause.High < spokeAt b first now k - now)) = true then none
    else match spokenL b false (spokeAt b first now k + (pieceAt b k).Long) l with
      | none => none
      | some r => some (⟨k, spokeAt b first now k⟩ :: r.1, r.2)
theorem spokeAt_b {b : Book} (o : BookOk b) (first : Bool) {now k : Int} (h0 : 0 ≤ now) (hk : 0 ≤ k ∧ k < b.Pieces.length) : now ≤ spokeAt b first now k ∧ spokeAt b first now k ≤ now + 700 ∧ spokeAt b first now k % discOf b (pieceAt b k) = (pieceAt b k).Begin ∧ (first = false → now + b.Pause.Low ≤ spokeAt b first now k) := by
  have po : PieceOk b (pieceAt b k) := piece_ok o (by omega)
  have t1 := po.t1
  have t2 := po.t2
  have a0 := o.a0
  have a1 := o.a1
  have a2 := o.a2
  unfold spokeAt
  obtain ⟨u, hu⟩ : ∃ u, (if first = true then now else now + b.Pause.Low) = u := ⟨_, rfl⟩
  have hu1 : now ≤ u ∧ u ≤ now + 200 ∧ (first = false → u = now + b.Pause.Low) := by
    rw [← hu]
    cases first
    · rw [if_neg (by decide)]; exact ⟨by omega, by omega, fun _ => rfl⟩
    · rw [if_pos rfl]; exact ⟨by omega, by omega, fun h => by cases h⟩
  rw [hu]
  have e0 := Int.emod_nonneg ((pieceAt b k).Begin - u) (show discOf b (pieceAt b k) ≠ 0 by omega)
  have e1 := Int.emod_lt_of_pos ((pieceAt b k).Begin - u) (show 0 < discOf b (pieceAt b k) by omega)
  refine ⟨by omega, by omega, ?_, fun hf => by have := hu1.2.2 hf; omega⟩
  rw [Int.add_emod_emod, show u + ((pieceAt b k).Begin - u) = (pieceAt b k).Begin by omega]
  exact Int.emod_eq_of_lt po.b0 po.b1
theorem spoken_chain {b : Book} (o : BookOk b) (text : List Int) : ∀ (l : List Int) (p : Nat) (first : Bool) (now : Int) {plan : List Start} {ended : Int}, 0 ≤ now → InR b every l → p ≤ text.length → text.drop p = wordsL b l → spokenL b first now l = some (plan, ended) →
    Chain b text p (if first then none else some now) plan text.length (if l = [] then (if first then none else some now) else some ended) ∧ (∀ s ∈ plan, now ≤ s.At) ∧ now ≤ ended ∧ ended ≤ now + 1200 * l.length ∧ plan.length = l.length
  | [], p, first, now, plan, ended, h0, _, hp, ht, h => by
    cases h
    have := List.drop_eq_nil_iff.1 ht
    refine ⟨⟨by omega, by rw [if_pos rfl]⟩, by simp, Int.le_refl _, by simp, rfl⟩
  | k :: l, p, first, now, plan, ended, h0, hl, hp, ht, h => by
    unfold InR at hl
    rw [List.forall_mem_cons] at hl
    have hk := hl.1
    have sb := spokeAt_b o first h0 ⟨hk.1, hk.2.1⟩
    have po : PieceOk b (pieceAt b k) := piece_ok o (by omega)
    have l1 := po.l1
    have l2 := po.l2
    have t2 := po.t2
    rw [spokenL] at h
    split at h
    · cases h
    · rename_i hc
      rw [wordsL] at ht
      obtain ⟨f1, f2⟩ := (fits_iff (pieceAt b k) text p hp _).2 ht
      cases hr : spokenL b false (spokeAt b first now k + (pieceAt b k).Long) l with
      | none => rw [hr] at h; cases h
      | some r =>
        obtain ⟨plan', ended'⟩ := r
        rw [hr] at h
        cases h
        obtain ⟨g1, g2, g3, g4, g5⟩ := spoken_chain o text l _ false _ (by omega) hl.2 (fits_le f1) f2 hr
        refine ⟨⟨⟨hk.1, hk.2.1, f1, by simp only; omega, sb.2.2.1, ?_⟩, ?_⟩, ?_, by omega, ?_, by simp [g5]⟩
        · cases first
          · simp only [Bool.not_false, Bool.true_and, decide_eq_true_eq] at hc
            have := sb.2.2.2 rfl
            simp only [Bool.false_eq_true, if_false]
            omega
          · simp
        · rw [if_neg (by simp)]
          simp only [Bool.false_eq_true, if_false] at g1
          by_cases hl0 : l = []
          · subst hl0
            rw [if_pos rfl] at g1
            simp only [spokenL] at hr
            cases hr
            exact g1
          · rw [if_neg hl0] at g1
            exact g1
        · intro s hs
          rcases List.mem_cons.1 hs with rfl | hs
          · exact sb.1
          · have := g2 s hs; omega
        · simp only [List.length_cons]
          omega
/-- What is spoken is a plan. -/
theorem spoken_plan {b : Book} (o : BookOk b) {l : List Int} (hl : InR b every l) (hne : l ≠ []) {from_ : Int} (h0 : 0 ≤ from_) {plan : List Start} {ended pip : Int} (h : spokenL b true from_ l = some (plan, ended)) (hr : b.Rest.Low ≤ pip - ended ∧ pip - ended ≤ b.Rest.High) :
    PlanP b (wordsL b l) from_ pip plan ∧ from_ ≤ ended ∧ ended ≤ from_ + 1200 * l.length ∧ plan.length = l.length := by
  obtain ⟨g1, g2, g3, g4, g5⟩ := spoken_chain o (wordsL b l) l 0 true from_ h0 hl (Nat.zero_le _) rfl h
  rw [if_pos rfl, if_neg hne] at g1
  have hc : Cont b (wordsL b l) pip 0 none plan := ⟨_, _, g1, rfl, by simpa using hr.1, by simpa using hr.2⟩
  exact ⟨⟨hc, fun s hs => ⟨g2 s hs, (cont_pip o hc).1 s hs⟩⟩, g3, g4, g5⟩
/-! ### Later plans -/
/-! ### A wider book -/
structure Wider (b y : Book) : Prop where
  d : y.Discs = b.Discs
  p : y.Pieces = b.Pieces
  a1 : y.Pause.Low ≤ b.Pause.Low
  a2 : b.Pause.High ≤ y.Pause.High
  r1 : y.Rest.Low ≤ b.Rest.Low
  r2 : b.Rest.High ≤ y.Rest.High
end Go.RS.DC

/- The chapter voice, as plain functions (10): what the laws compute besides. -/
namespace Go.RS.DC
open Go Go.RS
open Go.RS.Enc (enc dec)
end Go.RS.DC

