/- The chapter voice, as plain functions (8): the law of the pieces that are needed. -/
import Derived.Test.YtcbkaiakncbcbaaDoorVpa
set_option linter.all false
namespace Go.RS.DC
open Go Go.RS
open Go.RS.Enc (enc dec)
/-- A book with some of its pieces alone. -/
def subB (b : Book) (l : List Int) : Book := ⟨b.Discs, l.map (pieceAt b), b.Pause, b.Rest⟩
def inB (b : Book) (k : Int) : Bool := wi k 0 (b.Pieces.length - 1)
def enoughB (b : Book) (l : List Int) (text : List Int) : Bool := decide ((FewestVR (subB b (l.filter (inB b))) text).2 = 0)
theorem filter_in {b : Book} {l : List Int} (h : InR b every l) : l.filter (inB b) = l := by
  rw [List.filter_eq_self]
  intro k hk
  have := h k hk
  unfold inB
  rw [wi_iff]; omega
theorem pieceAt_mem {b : Book} {k : Int} (h0 : 0 ≤ k) (h1 : k < b.Pieces.length) : pieceAt b k ∈ b.Pieces := by
  unfold pieceAt
  rw [List.getD_eq_getElem?_getD, List.getElem?_eq_getElem (show k.toNat < b.Pieces.length by omega)]
  exact List.getElem_mem _
theorem sub_okB {b : Book} (ho : okB b = true) {l : List Int} (h : InR b every l) (h1 : 1 ≤ l.length) (h2 : l.length ≤ 10) : okB (subB b l) = true := by
  simp only [okB, headB, Bool.and_eq_true, wi_iff, List.all_eq_true] at ho ⊢
  obtain ⟨⟨⟨⟨⟨a1, a3, a4⟩, a5⟩, a6⟩, a7⟩, a8⟩ := ho
  refine ⟨⟨⟨⟨⟨a1, ?_, ?_⟩, a5⟩, a6⟩, a7⟩, fun x hx => ?_⟩
  · show (1 : Int) ≤ ((l.map (pieceAt b)).length : Nat)
    rw [List.length_map]; omega
  · show (((l.map (pieceAt b)).length : Nat) : Int) ≤ 10
    rw [List.length_map]; omega
  · obtain ⟨k, hk, rfl⟩ := List.mem_map.1 hx
    have := h k hk
    exact a8 _ (pieceAt_mem this.1 this.2.1)
theorem sub_piece {b : Book} {l : List Int} {i : Nat} (h : i < l.length) : pieceAt (subB b l) i = pieceAt b l[i] := by
  unfold pieceAt subB
  simp only [Int.toNat_natCast]
  rw [List.getD_eq_getElem?_getD, List.getElem?_map, List.getElem?_eq_getElem h]
  rfl
theorem sub_to {b : Book} {l : List Int} (hl : InR b every l) : ∀ {q : List Int}, InR (subB b l) every q → ∃ r, InR b (selL l) r ∧ wordsL b r = wordsL (subB b l) q
  | [], _ => ⟨[], by simp [InR], rfl⟩
  | k :: q, h => by
    unfold InR at h
    rw [List.forall_mem_cons] at h
    obtain ⟨r, h1, h2⟩ := sub_to hl (q := q) h.2
    have hlen : (subB b l).Pieces.length = l.length := List.length_map _
    obtain ⟨i, rfl⟩ : ∃ i : Nat, k = i := ⟨k.toNat, by omega⟩
    have hi : i < l.length := by omega
    have hx := hl l[i] (List.getElem_mem hi)
    refine ⟨l[i] :: r, fun j hj => ?_, by rw [wordsL, wordsL, h2, sub_piece hi]⟩
    rcases List.mem_cons.1 hj with rfl | hj
    · refine ⟨hx.1, hx.2.1, ?_⟩
      unfold selL
      rw [List.contains_iff_mem, Int.toNat_of_nonneg hx.1]
      exact List.getElem_mem hi
    · exact h1 j hj
theorem sub_from {b : Book} {l : List Int} : ∀ {r : List Int}, InR b (selL l) r → ∃ q, InR (subB b l) every q ∧ wordsL (subB b l) q = wordsL b r
  | [], _ => ⟨[], by simp [InR], rfl⟩
  | k :: r, h => by
    unfold InR at h
    rw [List.forall_mem_cons] at h
    obtain ⟨q, h1, h2⟩ := sub_from (r := r) h.2
    have hlen : (subB b l).Pieces.length = l.length := List.length_map _
    obtain ⟨g1, g2, g3⟩ := h.1
    unfold selL at g3
    rw [List.contains_iff_mem, Int.toNat_of_nonneg g1] at g3
    obtain ⟨i, hi, he⟩ := List.getElem_of_mem g3
    refine ⟨(i : Int) :: q, fun j hj => ?_, by rw [wordsL, wordsL, h2, sub_piece hi, he]⟩
    rcases List.mem_cons.1 hj with rfl | hj
    · exact ⟨by omega, by omega, rfl⟩
    · exact h1 j hj
theorem say_some {b : Book} (o : BookOk b) (sel : Nat → Bool) (t : List Int) : (sayF b sel t 0).isSome = true ↔ ∃ r, InR b sel r ∧ wordsL b r = t := by
  constructor
  · intro h
    obtain ⟨l, hl⟩ := Option.isSome_iff_exists.1 h
    obtain ⟨_, k2, k3⟩ := (says_iff _ _ _ _ _).1 (sayF_says o sel _ _ 0 rfl (Nat.zero_le _) hl)
    exact ⟨l, k2, k3.symm⟩
  · rintro ⟨r, h1, h2⟩
    obtain ⟨l, g1, _⟩ := sayF_least o sel t r 0 ((says_iff _ _ _ _ _).2 ⟨Nat.zero_le _, h1, h2.symm⟩)
    rw [g1]; rfl
/-- With some pieces alone a text can be said just if these pieces say it. -/
theorem enough_iff {b : Book} (ho : okB b = true) {l : List Int} (h : InR b every l) (h1 : 1 ≤ l.length) (h2 : l.length ≤ 10) {t : List Int} (ht : wordsOk t 8 = true) : enoughB b l t = (sayF b (selL l) t 0).isSome := by
  have hs := sub_okB ho h h1 h2
  unfold enoughB
  rw [filter_in h, Bool.eq_iff_iff, decide_eq_true_eq, say_some (okB_ok ho)]
  have : (FewestVR (subB b l) t).2 = 0 ↔ (sayF (subB b l) every t 0).isSome = true := by
    unfold FewestVR
    rw [if_pos hs, if_pos ht]
    cases h : sayF (subB b l) (fun _ => true) t 0 with
    | none => simp [show sayF (subB b l) every t 0 = none from h]
    | some x => simp [show sayF (subB b l) every t 0 = some x from h]
  rw [this, say_some (okB_ok hs)]
  constructor
  · rintro ⟨r, g1, g2⟩
    obtain ⟨q, k1, k2⟩ := sub_to h g1
    exact ⟨q, k1, k2.trans g2⟩
  · rintro ⟨r, g1, g2⟩
    obtain ⟨q, k1, k2⟩ := sub_from g1
    exact ⟨q, k1, k2.trans g2⟩
theorem incP_in {b : Book} {l : List Int} (h : IncP b.Pieces.length 0 l) : InR b every l := fun k hk => by
  have := h.2 k hk
  exact ⟨by omega, this.2, rfl⟩
theorem incP_len' {n : Nat} {l : List Int} (h : IncP n 0 l) : l.length ≤ n := by
  rcases incP_len h with h | rfl
  · omega
  · simp
/-- The law of the pieces that are needed. -/
theorem needed_of {b : Book} (ho : okB b = true) {m₁ m₂ : List Int} (hm₁ : InR b every m₁) (hm₂ : InR b every m₂) (h₁ : 1 ≤ (wordsL b m₁).length) (k₁ : (wordsL b m₁).length ≤ 8) (h₂ : 1 ≤ (wordsL b m₂).length) (k₂ : (wordsL b m₂).length ≤ 8) :
    ∃ l, NeededR b [wordsL b m₁, wordsL b m₂] = (l, 0) ∧ 1 ≤ l.length ∧ IncP b.Pieces.length 0 l ∧ enoughB b l (wordsL b m₁) = true ∧ enoughB b l (wordsL b m₂) = true ∧
      ∀ s : Nat, 1 ≤ (listF s b.Pieces.length).length → ((listF s b.Pieces.length).length < l.length ∨ (listF s b.Pieces.length).length = l.length ∧ aheadB (listF s b.Pieces.length) l = true) →
        (enoughB b (listF s b.Pieces.length) (wordsL b m₁) && enoughB b (listF s b.Pieces.length) (wordsL b m₂)) = false := by
  have o := okB_ok ho
  have p2 := o.p2
  have w₁ := wordsOk_of h₁ k₁ (words_range o hm₁)
  have w₂ := wordsOk_of h₂ k₂ (words_range o hm₂)
  have hte : textsOk [wordsL b m₁, wordsL b m₂] = true := by
    unfold textsOk
    simp only [List.all_cons, List.all_nil, w₁, w₂, Bool.and_true, wi_iff, List.length_cons, List.length_nil]
    decide
  have hall : saysAll b [wordsL b m₁, wordsL b m₂] (fullL b) = true := by
    have hsel : ∀ m, InR b every m → InR b (selL (fullL b)) m := fun m hm k hk => by
      have := hm k hk
      refine ⟨this.1, this.2.1, ?_⟩
      unfold selL
      rw [List.contains_iff_mem]
      refine mem_listF.2 ⟨k.toNat, by omega, ?_, rfl⟩
      rw [Nat.testBit_two_pow_sub_one]; simp; omega
    unfold saysAll
    simp only [List.all_cons, List.all_nil, Bool.and_true, Bool.and_eq_true, say_some o]
    exact ⟨⟨m₁, hsel _ hm₁, rfl⟩, ⟨m₂, hsel _ hm₂, rfl⟩⟩
  unfold NeededR
  rw [if_pos ho, if_pos hte]
  cases hn : needF (saysAll b [wordsL b m₁, wordsL b m₂]) b.Pieces.length with
  | none => have := needF_none hn (fullL b) (listF_inc _ _); rw [hall] at this; cases this
  | some l =>
    obtain ⟨hi, hok, hle⟩ := needF_some hn
    have hok' := hok
    unfold saysAll at hok'
    simp only [List.all_cons, List.all_nil, Bool.and_true, Bool.and_eq_true] at hok'
    have hl1 : 1 ≤ l.length := by
      cases l with
      | nil =>
        have := say_none o (s := selL []) (fun i _ => rfl) h₁
        rw [this] at hok'; cases hok'.1
      | cons a l => simp
    have hl2 := incP_len' hi
    refine ⟨l, rfl, hl1, hi, ?_, ?_, fun s hs1 hs2 => ?_⟩
    · rw [enough_iff ho (incP_in hi) hl1 (by omega) w₁]; exact hok'.1
    · rw [enough_iff ho (incP_in hi) hl1 (by omega) w₂]; exact hok'.2
    · have hI := listF_inc s b.Pieces.length
      have hIl := incP_len' hI
      rw [enough_iff ho (incP_in hI) hs1 (by omega) w₁, enough_iff ho (incP_in hI) hs1 (by omega) w₂]
      cases hx : ((sayF b (selL (listF s b.Pieces.length)) (wordsL b m₁) 0).isSome && (sayF b (selL (listF s b.Pieces.length)) (wordsL b m₂) 0).isSome) with
      | false => rfl
      | true =>
        have : saysAll b [wordsL b m₁, wordsL b m₂] (listF s b.Pieces.length) = true := by
          unfold saysAll
          simp only [List.all_cons, List.all_nil, Bool.and_true]
          exact hx
        rcases hle _ hI this with g | ⟨g1, g2⟩
        · omega
        · rcases hs2 with g | ⟨_, g⟩
          · omega
          · rw [g2] at g; cases g
end Go.RS.DC

/- The chapter voice, as plain functions (9): the laws of plans that are chosen, later ones and wider ones. -/
namespace Go.RS.DC
open Go Go.RS
open Go.RS.Enc (enc dec)
/-! ### Plans from another time on -/
theorem plan_from {b : Book} {text : List Int} {from_ from' pip : Int} {l : List Start} (h : PlanP b text from_ pip l) (hl : from' ≤ from_) : PlanP b text from' pip l :=
  ⟨h.1, fun s hs => by have := h.2 s hs; omega⟩
/-- From its own beginning on. -/
theorem plan_own {b : Book} (o : BookOk b) {text : List Int} {from_ pip : Int} {s : Start} {l : List Start} (h : PlanP b text from_ pip (s :: l)) : PlanP b text s.At pip (s :: l) ∧ s.At < pip := by
  obtain ⟨h1, h2, h3, h4⟩ := (plan_cons o).1 h
  obtain ⟨g1, g2, g3⟩ := cont_pip o h4
  have l1 := (step_piece o h3).1.l1
  have := g2 _ rfl
  exact ⟨(plan_cons o).2 ⟨Int.le_refl _, h2, h3, h4⟩, by omega⟩
theorem asked_of {b : Book} (ho : okB b = true) {text : List Int} (hw : wordsOk text 8 = true) {from_ pip : Int} (h0 : 0 ≤ from_) (h1 : from_ ≤ pip) (h2 : pip ≤ 100000000) (h3 : pip - from_ ≤ 6100) : askedV b text from_ pip = 0 := by
  unfold askedV
  rw [if_pos ho, if_pos hw, if_pos]
  unfold timesOk
  simp only [Bool.and_eq_true, wi_iff, decide_eq_true_eq]
  omega
theorem words_of {text : List Int} (hw : wordsOk text 8 = true) : 1 ≤ text.length ∧ text.length ≤ 8 := by
  simp only [wordsOk, Bool.and_eq_true, wi_iff] at hw
  omega
/-- What is told of a plan's own times. -/
theorem told {b : Book} (ho : okB b = true) {text : List Int} (hw : wordsOk text 8 = true) {from_ pip : Int} (h0 : 0 ≤ from_) (h1 : from_ ≤ pip) (h2 : pip ≤ 100000000) (h3 : pip - from_ ≤ 6100) :
    (PlanPR b text from_ pip = ([], 4) ∧ LatestPR b text from_ pip = (0, 4) ∧ (∀ m, ¬ PlanP b text from_ pip m)) ∨
    ∃ x l late, PlanPR b text from_ pip = (x :: l, 0) ∧ LatestPR b text from_ pip = (late, 0) ∧ PlanP b text from_ pip (x :: l) ∧ (∀ m, PlanP b text from_ pip m → (x :: l).length ≤ m.length) ∧
      (∃ s m, PlanP b text from_ pip (s :: m) ∧ s.At = late) ∧ ∀ s m, PlanP b text from_ pip (s :: m) → s.At ≤ late := by
  have ha := asked_of ho hw h0 h1 h2 h3
  have wl := words_of hw
  have ok := plan_ok (okB_ok ho) wl.1 wl.2 (from_ := from_) (pip := pip) h0
  unfold PlanPR LatestPR
  rw [if_pos ha, if_pos ha]
  cases hp : planF b text from_ pip with
  | none => exact .inl ⟨rfl, rfl, ok.none_ hp⟩
  | some r =>
    obtain ⟨l, late⟩ := r
    obtain ⟨g1, g2, g3, g4⟩ := ok.some_ l late hp
    cases l with
    | nil => exact absurd g1 (plan_ne wl.1)
    | cons x l => exact .inr ⟨x, l, late, rfl, rfl, g1, g2, g3, g4⟩
theorem isPlan_of {b : Book} (ho : okB b = true) {text : List Int} (hw : wordsOk text 8 = true) {from_ pip : Int} (h0 : 0 ≤ from_) (h1 : from_ ≤ pip) (h2 : pip ≤ 100000000) (h3 : pip - from_ ≤ 6100) {l : List Start} (hl : PlanP b text from_ pip l) : IsPlanR b text from_ pip l = (true, 0) := by
  unfold IsPlanR
  rw [if_pos (asked_of ho hw h0 h1 h2 h3), (planB_iff h0 l 0 none).2 hl]
theorem isPlan_nil {b : Book} (ho : okB b = true) {text : List Int} (hw : wordsOk text 8 = true) {from_ pip : Int} (h0 : 0 ≤ from_) (h1 : from_ ≤ pip) (h2 : pip ≤ 100000000) (h3 : pip - from_ ≤ 6100) : IsPlanR b text from_ pip [] = (false, 0) := by
  unfold IsPlanR
  rw [if_pos (asked_of ho hw h0 h1 h2 h3), planB]
  have := (words_of hw).1
  rw [decide_eq_false (by omega), Bool.false_and]
/-- The law of the pip. -/
theorem pip_law {b : Book} (ho : okB b = true) {text : List Int} (hw : wordsOk text 8 = true) {from_ pip : Int} {y : Start} {plan : List Start} (h : PlanP b text from_ pip (y :: plan)) (h0 : 0 ≤ from_) (h2 : pip ≤ 100000000) (h3 : pip - from_ ≤ 6100) :
    ∃ x l late z m, PlanPR b text from_ pip = (x :: l, 0) ∧ IsPlanR b text from_ pip (x :: l) = (true, 0) ∧ LatestPR b text from_ pip = (late, 0) ∧ l.length ≤ plan.length ∧ y.At ≤ late ∧ x.At ≤ late ∧
      PlanPR b text late pip = (z :: m, 0) ∧ l.length ≤ m.length ∧ z.At = late ∧ late + 1 ≤ pip ∧ PlanPR b text (late + 1) pip = ([], 4) ∧ from_ ≤ late := by
  have o := okB_ok ho
  have hfp : from_ ≤ pip := by have := h.2 y (by simp); omega
  rcases told ho hw h0 hfp h2 h3 with ⟨_, _, hn⟩ | ⟨x, l, late, t1, t2, t3, t4, ⟨s, q, t5, rfl⟩, t6⟩
  · exact absurd h (hn _)
  · obtain ⟨u1, u2⟩ := plan_own o t5
    have u3 := t5.2 s (by simp)
    have hl : (x :: l).length ≤ (y :: plan).length := t4 _ h
    rcases told ho hw (from_ := s.At) (pip := pip) (by omega) (by omega) h2 (by omega) with ⟨_, _, hn⟩ | ⟨z, m, late', v1, v2, v3, v4, _, _⟩
    · exact absurd u1 (hn _)
    · have w1 := plan_from v3 u3.1
      have w2 := t6 _ _ w1
      have w3 := v3.2 z (by simp)
      have w4 := t4 _ w1
      have hx : s.At + 1 ≤ pip := by omega
      rcases told ho hw (from_ := s.At + 1) (pip := pip) (by omega) hx h2 (by omega) with ⟨r1, _, _⟩ | ⟨a, c, _, _, _, r3, _⟩
      · simp only [List.length_cons] at hl w4
        exact ⟨x, l, s.At, z, m, t1, isPlan_of ho hw h0 hfp h2 h3 t3, t2, by omega, t6 _ _ h, t6 _ _ t3, v1, by omega, by omega, hx, r1, u3.1⟩
      · have w5 := t6 _ _ (plan_from r3 (show from_ ≤ s.At + 1 by omega))
        have w6 := r3.2 a (by simp)
        omega
/-! ### A plan as numbers choose it -/
def spokeAt (b : Book) (first : Bool) (now : Int) (k : Int) : Int := (if first then now else now + b.Pause.Low) + ((pieceAt b k).Begin - (if first then now else now + b.Pause.Low)) % discOf b (pieceAt b k)
def spokenL (b : Book) : Bool → Int → List Int → Option (List Start × Int)
  | _, now, [] => some ([], now)
  | first, now, k :: l => if (!first && decide (b.Pause.High < spokeAt b first now k - now)) = true then none
    else match spokenL b false (spokeAt b first now k + (pieceAt b k).Long) l with
      | none => none
      | some r => some (⟨k, spokeAt b first now k⟩ :: r.1, r.2)
theorem spokeAt_b {b : Book} (o : BookOk b) (first : Bool) {now k : Int} (h0 : 0 ≤ now) (hk : 0 ≤ k ∧ k < b.Pieces.length) : now ≤ spokeAt b first now k ∧ spokeAt b first now k ≤ now + 700 ∧ spokeAt b first now k % discOf b (pieceAt b k) = (pieceAt b k).Begin ∧ (first = false → now + b.Pause.Low ≤ spokeAt b first now k) := by
  have po : PieceOk b (pieceAt b k) := piece_ok o (by omega)
  have t1 := po.t1
  have t2 := po.t2
  have a0 := o.a0
  have a1 := o.a1
  have a2 := o.a2
  unfold spokeAt
  obtain ⟨u, hu⟩ : ∃ u, (if first = true then now else now + b.Pause.Low) = u := ⟨_, rfl⟩
  have hu1 : now ≤ u ∧ u ≤ now + 200 ∧ (first = false → u = now + b.Pause.Low) := by
    rw [← hu]
    cases first
    · rw [if_neg (by decide)]; exact ⟨by omega, by omega, fun _ => rfl⟩
    · rw [if_pos rfl]; exact ⟨by omega, by omega, fun h => by cases h⟩
  rw [hu]
  have e0 := Int.emod_nonneg ((pieceAt b k).Begin - u) (show discOf b (pieceAt b k) ≠ 0 by omega)
  have e1 := Int.emod_lt_of_pos ((pieceAt b k).Begin - u) (show 0 < discOf b (pieceAt b k) by omega)
  refine ⟨by omega, by omega, ?_, fun hf => by have := hu1.2.2 hf; omega⟩
  rw [Int.add_emod_emod, show u + ((pieceAt b k).Begin - u) = (pieceAt b k).Begin by omega]
  exact Int.emod_eq_of_lt po.b0 po.b1
theorem spoken_chain {b : Book} (o : BookOk b) (text : List Int) : ∀ (l : List Int) (p : Nat) (first : Bool) (now : Int) {plan : List Start} {ended : Int}, 0 ≤ now → InR b every l → p ≤ text.length → text.drop p = wordsL b l → spokenL b first now l = some (plan, ended) →
    Chain b text p (if first then none else some now) plan text.length (if l = [] then (if first then none else some now) else some ended) ∧ (∀ s ∈ plan, now ≤ s.At) ∧ now ≤ ended ∧ ended ≤ now + 1200 * l.length ∧ plan.length = l.length
  | [], p, first, now, plan, ended, h0, _, hp, ht, h => by
    cases h
    have := List.drop_eq_nil_iff.1 ht
    refine ⟨⟨by omega, by rw [if_pos rfl]⟩, by simp, Int.le_refl _, by simp, rfl⟩
  | k :: l, p, first, now, plan, ended, h0, hl, hp, ht, h => by
    unfold InR at hl
    rw [List.forall_mem_cons] at hl
    have hk := hl.1
    have sb := spokeAt_b o first h0 ⟨hk.1, hk.2.1⟩
    have po : PieceOk b (pieceAt b k) := piece_ok o (by omega)
    have l1 := po.l1
    have l2 := po.l2
    have t2 := po.t2
    rw [spokenL] at h
    split at h
    · cases h
    · rename_i hc
      rw [wordsL] at ht
      obtain ⟨f1, f2⟩ := (fits_iff (pieceAt b k) text p hp _).2 ht
      cases hr : spokenL b false (spokeAt b first now k + (pieceAt b k).Long) l with
      | none => rw [hr] at h; cases h
      | some r =>
        obtain ⟨plan', ended'⟩ := r
        rw [hr] at h
        cases h
        obtain ⟨g1, g2, g3, g4, g5⟩ := spoken_chain o text l _ false _ (by omega) hl.2 (fits_le f1) f2 hr
        refine ⟨⟨⟨hk.1, hk.2.1, f1, by simp only; omega, sb.2.2.1, ?_⟩, ?_⟩, ?_, by omega, ?_, by simp [g5]⟩
        · cases first
          · simp only [Bool.not_false, Bool.true_and, decide_eq_true_eq] at hc
            have := sb.2.2.2 rfl
            simp only [Bool.false_eq_true, if_false]
            omega
          · simp
        · rw [if_neg (by simp)]
          simp only [Bool.false_eq_true, if_false] at g1
          by_cases hl0 : l = []
          · subst hl0
            rw [if_pos rfl] at g1
            simp only [spokenL] at hr
            cases hr
            exact g1
          · rw [if_neg hl0] at g1
            exact g1
        · intro s hs
          rcases List.mem_cons.1 hs with rfl | hs
          · exact sb.1
          · have := g2 s hs; omega
        · simp only [List.length_cons]
          omega
/-- What is spoken is a plan. -/
theorem spoken_plan {b : Book} (o : BookOk b) {l : List Int} (hl : InR b every l) (hne : l ≠ []) {from_ : Int} (h0 : 0 ≤ from_) {plan : List Start} {ended pip : Int} (h : spokenL b true from_ l = some (plan, ended)) (hr : b.Rest.Low ≤ pip - ended ∧ pip - ended ≤ b.Rest.High) :
    PlanP b (wordsL b l) from_ pip plan ∧ from_ ≤ ended ∧ ended ≤ from_ + 1200 * l.length ∧ plan.length = l.length := by
  obtain ⟨g1, g2, g3, g4, g5⟩ := spoken_chain o (wordsL b l) l 0 true from_ h0 hl (Nat.zero_le _) rfl h
  rw [if_pos rfl, if_neg hne] at g1
  have hc : Cont b (wordsL b l) pip 0 none plan := ⟨_, _, g1, rfl, by simpa using hr.1, by simpa using hr.2⟩
  exact ⟨⟨hc, fun s hs => ⟨g2 s hs, (cont_pip o hc).1 s hs⟩⟩, g3, g4, g5⟩
/-! ### Later plans -/
def shiftS (D : Int) (l : List Start) : List Start := l.map fun s => ⟨s.Piece, s.At + D⟩
theorem chain_shift {b : Book} (o : BookOk b) {text : List Int} {D : Int} (hD : ∀ n ∈ b.Discs, D % n = 0) : ∀ {l : List Start} {p q : Nat} {e f : Option Int}, (∀ s ∈ l, 0 ≤ s.At + D) → Chain b text p e l q f → Chain b text p (e.map (· + D)) (shiftS D l) q (f.map (· + D))
  | [], p, q, e, f, _, ⟨h1, h2⟩ => ⟨h1, by rw [h2]⟩
  | s :: l, p, q, e, f, h0, ⟨h1, h2⟩ => by
    rw [List.forall_mem_cons] at h0
    have po := (step_piece o h1).1
    obtain ⟨c1, c2, c3, c4, c5, c6⟩ := h1
    refine ⟨⟨c1, c2, c3, h0.1, ?_, ?_⟩, ?_⟩
    · show (s.At + D) % discOf b (pieceAt b s.Piece) = (pieceAt b s.Piece).Begin
      have hd : discOf b (pieceAt b s.Piece) ∈ b.Discs := by
        have d0 := po.d0
        have d1 := po.d1
        unfold discOf
        rw [List.getD_eq_getElem?_getD, List.getElem?_eq_getElem (show (pieceAt b s.Piece).Disc.toNat < b.Discs.length by omega)]
        exact List.getElem_mem _
      rw [← Int.emod_add_emod, c5, Int.add_comm]
      have hz := hD _ hd
      rw [← Int.emod_add_emod, hz, Int.zero_add]
      exact Int.emod_eq_of_lt po.b0 po.b1
    · cases e with
      | none => trivial
      | some t => simp only [Option.map_some]; simp only at c6; omega
    · have := chain_shift o hD (l := l) h0.2 h2
      simp only [Option.map_some] at this
      rw [show s.At + (pieceAt b s.Piece).Long + D = s.At + D + (pieceAt b s.Piece).Long by omega] at this
      exact this
theorem plan_shift {b : Book} (o : BookOk b) {text : List Int} (ht : 1 ≤ text.length) {D : Int} (hD : ∀ n ∈ b.Discs, D % n = 0) {from_ pip : Int} (h0 : 0 ≤ from_ + D) {l : List Start} (h : PlanP b text from_ pip l) : PlanP b text (from_ + D) (pip + D) (shiftS D l) := by
  obtain ⟨⟨q, f, h1, h2, h3, h4⟩, h5⟩ := h
  have hs : ∀ s ∈ l, 0 ≤ s.At + D := fun s hs => by have := h5 s hs; omega
  have hc := chain_shift o hD hs h1
  refine ⟨⟨q, f.map (· + D), hc, h2, ?_, ?_⟩, fun s hs => ?_⟩
  · cases l with
    | nil => obtain ⟨e1, _⟩ := h1; omega
    | cons s l =>
      obtain ⟨u, rfl, _⟩ := chain_times o h1.2 _ rfl
      simp only [Option.map_some, Option.getD_some] at h3 ⊢; omega
  · cases l with
    | nil => obtain ⟨e1, _⟩ := h1; omega
    | cons s l =>
      obtain ⟨u, rfl, _⟩ := chain_times o h1.2 _ rfl
      simp only [Option.map_some, Option.getD_some] at h4 ⊢; omega
  · obtain ⟨x, hx, rfl⟩ := List.mem_map.1 hs
    have := h5 x hx
    simp only; omega
theorem shift_len (D : Int) (l : List Start) : (shiftS D l).length = l.length := List.length_map _
/-- The law of later plans. -/
theorem later_law {b : Book} (ho : okB b = true) {text : List Int} (hw : wordsOk text 8 = true) {from_ pip D : Int} (h0 : 0 ≤ from_) (h1 : from_ ≤ pip) (h3 : pip - from_ ≤ 6100) (d0 : 0 ≤ D) (hD : ∀ n ∈ b.Discs, D % n = 0) (h2 : pip + D ≤ 100000000) :
    (PlanPR b text from_ pip = ([], 4) ∧ LatestPR b text from_ pip = (0, 4) ∧ PlanPR b text (from_ + D) (pip + D) = ([], 4) ∧ LatestPR b text (from_ + D) (pip + D) = (0, 4) ∧ IsPlanR b text (from_ + D) (pip + D) [] = (false, 0)) ∨
    ∃ l m late, PlanPR b text from_ pip = (l, 0) ∧ LatestPR b text from_ pip = (late, 0) ∧ PlanPR b text (from_ + D) (pip + D) = (m, 0) ∧ LatestPR b text (from_ + D) (pip + D) = (late + D, 0) ∧ m.length = l.length ∧ IsPlanR b text (from_ + D) (pip + D) (shiftS D l) = (true, 0) := by
  have o := okB_ok ho
  have wl := (words_of hw).1
  have hD' : ∀ n ∈ b.Discs, (-D) % n = 0 := fun n hn => Int.emod_eq_zero_of_dvd (Int.dvd_neg.2 (Int.dvd_of_emod_eq_zero (hD n hn)))
  have fwd : ∀ l, PlanP b text from_ pip l → PlanP b text (from_ + D) (pip + D) (shiftS D l) := fun l h => plan_shift o wl hD (by omega) h
  have bwd : ∀ l, PlanP b text (from_ + D) (pip + D) l → PlanP b text from_ pip (shiftS (-D) l) := fun l h => by
    have := plan_shift o wl hD' (from_ := from_ + D) (pip := pip + D) (by omega) h
    rw [show from_ + D + -D = from_ by omega, show pip + D + -D = pip by omega] at this
    exact this
  rcases told ho hw h0 h1 (by omega) h3 with ⟨t1, t2, t3⟩ | ⟨x, l, late, t1, t2, t3, t4, ⟨s, q, t5, rfl⟩, t6⟩
  · rcases told ho hw (from_ := from_ + D) (pip := pip + D) (by omega) (by omega) h2 (by omega) with ⟨v1, v2, v3⟩ | ⟨z, m, _, _, _, v3, _⟩
    · exact .inl ⟨t1, t2, v1, v2, isPlan_nil ho hw (by omega) (by omega) h2 (by omega)⟩
    · exact absurd (bwd _ v3) (t3 _)
  · rcases told ho hw (from_ := from_ + D) (pip := pip + D) (by omega) (by omega) h2 (by omega) with ⟨v1, v2, v3⟩ | ⟨z, m, late', v1, v2, v3, v4, ⟨s', q', v5, rfl⟩, v6⟩
    · exact absurd (fwd _ t3) (v3 _)
    · right
      have e1 := t4 _ (bwd _ v3)
      have e2 := v4 _ (fwd _ t3)
      rw [shift_len] at e1 e2
      have e3 : s.At + D ≤ s'.At := v6 ⟨s.Piece, s.At + D⟩ (shiftS D q) (fwd _ t5)
      have e4 : s'.At + -D ≤ s.At := t6 ⟨s'.Piece, s'.At + -D⟩ (shiftS (-D) q') (bwd _ v5)
      refine ⟨x :: l, z :: m, s.At, t1, t2, v1, by rw [v2, show s'.At = s.At + D by omega], by omega, ?_⟩
      exact isPlan_of ho hw (by omega) (by omega) h2 (by omega) (fwd _ t3)
/-! ### A wider book -/
structure Wider (b y : Book) : Prop where
  d : y.Discs = b.Discs
  p : y.Pieces = b.Pieces
  a1 : y.Pause.Low ≤ b.Pause.Low
  a2 : b.Pause.High ≤ y.Pause.High
  r1 : y.Rest.Low ≤ b.Rest.Low
  r2 : b.Rest.High ≤ y.Rest.High
theorem wider_chain {b y : Book} (w : Wider b y) {text : List Int} : ∀ {l : List Start} {p q : Nat} {e f : Option Int}, Chain b text p e l q f → Chain y text p e l q f
  | [], p, q, e, f, h => h
  | s :: l, p, q, e, f, ⟨h1, h2⟩ => by
    have hp : ∀ k, pieceAt y k = pieceAt b k := fun k => by unfold pieceAt; rw [w.p]
    have hd : ∀ x, discOf y x = discOf b x := fun x => by unfold discOf; rw [w.d]
    have ih := wider_chain w h2
    obtain ⟨c1, c2, c3, c4, c5, c6⟩ := h1
    refine ⟨⟨c1, by rw [w.p]; exact c2, by rw [hp]; exact c3, c4, by rw [hp, hd]; exact c5, ?_⟩, by rw [hp]; exact ih⟩
    cases e with
    | none => trivial
    | some t => have := w.a1; have := w.a2; simp only at c6 ⊢; omega
theorem wider_plan {b y : Book} (w : Wider b y) {text : List Int} {from_ pip : Int} {l : List Start} (h : PlanP b text from_ pip l) : PlanP y text from_ pip l := by
  obtain ⟨⟨q, f, h1, h2, h3, h4⟩, h5⟩ := h
  have := w.r1
  have := w.r2
  exact ⟨⟨q, f, wider_chain w h1, h2, by omega, by omega⟩, h5⟩
/-- The law of wider books. -/
theorem wider_law {b y : Book} (ho : okB b = true) (hy : okB y = true) (w : Wider b y) {text : List Int} (hw : wordsOk text 8 = true) {from_ pip : Int} (h0 : 0 ≤ from_) (h1 : from_ ≤ pip) (h2 : pip ≤ 100000000) (h3 : pip - from_ ≤ 6100) :
    (PlanPR b text from_ pip = ([], 4) ∧ IsPlanR y text from_ pip [] = (false, 0) ∧ ((PlanPR y text from_ pip).2 = 0 ∨ (PlanPR y text from_ pip).2 = 4)) ∨
    ∃ l m, PlanPR b text from_ pip = (l, 0) ∧ IsPlanR y text from_ pip l = (true, 0) ∧ PlanPR y text from_ pip = (m, 0) ∧ m.length ≤ l.length := by
  rcases told ho hw h0 h1 h2 h3 with ⟨t1, t2, t3⟩ | ⟨x, l, late, t1, t2, t3, t4, _, _⟩
  · left
    refine ⟨t1, isPlan_nil hy hw h0 h1 h2 h3, ?_⟩
    rcases told hy hw h0 h1 h2 h3 with ⟨v1, _⟩ | ⟨z, m, _, v1, _⟩
    · right; rw [v1]
    · left; rw [v1]
  · right
    have hp := wider_plan w t3
    rcases told hy hw h0 h1 h2 h3 with ⟨_, _, v3⟩ | ⟨z, m, _, v1, v2, v3, v4, _⟩
    · exact absurd hp (v3 _)
    · exact ⟨x :: l, z :: m, t1, isPlan_of hy hw h0 h1 h2 h3 hp, v1, v4 _ hp⟩
end Go.RS.DC

/- The chapter voice, as plain functions (10): what the laws compute besides. -/
namespace Go.RS.DC
open Go Go.RS
open Go.RS.Enc (enc dec)
/-- The product of the discs, as long as it is small. -/
def prodF : List Int → Int → Option Int
  | [], D => some D
  | d :: l, D => if 1000000 < D * d then none else prodF l (D * d)
theorem prodF_ok : ∀ (l : List Int) (D : Int) {P : Int}, (∀ n ∈ l, 1 ≤ n) → 1 ≤ D → D ≤ 1000000 → prodF l D = some P → 1 ≤ P ∧ P ≤ 1000000 ∧ D ∣ P ∧ ∀ n ∈ l, P % n = 0
  | [], D, P, _, h1, h2, h => by cases h; exact ⟨h1, h2, Int.dvd_refl _, by simp⟩
  | d :: l, D, P, hl, h1, h2, h => by
    rw [List.forall_mem_cons] at hl
    rw [prodF] at h
    split at h
    · cases h
    · have hd : 1 ≤ D * d := by
        have := Int.mul_le_mul h1 hl.1 (by decide) (by omega)
        simpa using this
      obtain ⟨g1, g2, g3, g4⟩ := prodF_ok l (D * d) hl.2 hd (by omega) h
      refine ⟨g1, g2, Int.dvd_trans (Int.dvd_mul_right _ _) g3, fun n hn => ?_⟩
      rcases List.mem_cons.1 hn with rfl | hn
      · exact Int.emod_eq_zero_of_dvd (Int.dvd_trans (Int.dvd_mul_left _ _) g3)
      · exact g4 n hn
/-- The wider book of the law. -/
def wideB (b : Book) (r0 r1 q0 q1 : Int) : Book := ⟨b.Discs, b.Pieces, ⟨max 0 (b.Pause.Low - r0), min 200 (b.Pause.High + r1)⟩, ⟨max 0 (b.Rest.Low - q1), min 500 (b.Rest.High + q0)⟩⟩
theorem wide_ok {b : Book} (ho : okB b = true) {r0 r1 q0 q1 : Int} (h0 : 0 ≤ r0) (h1 : 0 ≤ r1) (h2 : 0 ≤ q0) (h3 : 0 ≤ q1) : Wider b (wideB b r0 r1 q0 q1) ∧ okB (wideB b r0 r1 q0 q1) = true := by
  have o := okB_ok ho
  have a0 := o.a0
  have a1 := o.a1
  have a2 := o.a2
  have c0 := o.r0
  have c1 := o.r1
  have c2 := o.r2
  have e1 : 0 ≤ max 0 (b.Pause.Low - r0) ∧ max 0 (b.Pause.Low - r0) ≤ b.Pause.Low := ⟨Int.le_max_left _ _, Int.max_le.2 ⟨a0, by omega⟩⟩
  have e2 : b.Pause.High ≤ min 200 (b.Pause.High + r1) ∧ min 200 (b.Pause.High + r1) ≤ 200 := ⟨Int.le_min.2 ⟨a2, by omega⟩, Int.min_le_left _ _⟩
  have e3 : 0 ≤ max 0 (b.Rest.Low - q1) ∧ max 0 (b.Rest.Low - q1) ≤ b.Rest.Low := ⟨Int.le_max_left _ _, Int.max_le.2 ⟨c0, by omega⟩⟩
  have e4 : b.Rest.High ≤ min 500 (b.Rest.High + q0) ∧ min 500 (b.Rest.High + q0) ≤ 500 := ⟨Int.le_min.2 ⟨c2, by omega⟩, Int.min_le_left _ _⟩
  refine ⟨⟨rfl, rfl, e1.2, e2.1, e3.2, e4.1⟩, ?_⟩
  simp only [okB, headB, Bool.and_eq_true, spanOk_iff] at ho ⊢
  obtain ⟨⟨⟨⟨⟨g1, g2⟩, _⟩, _⟩, g5⟩, g6⟩ := ho
  exact ⟨⟨⟨⟨⟨g1, g2⟩, e1.1, Int.le_trans e1.2 (Int.le_trans a1 e2.1), e2.2⟩, e3.1, Int.le_trans e3.2 (Int.le_trans c1 e4.1), e4.2⟩, g5⟩, g6⟩
theorem dayV_len (num : Int → Int → Int) (c : Cal) (each : Int) : ∀ (m : Nat) (t : Int), (dayV num c each m t).length ≤ m
  | 0, _ => by simp [dayV]
  | m + 1, t => by
    rw [dayV]
    split
    · simp only [List.length_cons]; have := dayV_len num c each m (NextR c (t + 1) each).1; omega
    · simp
end Go.RS.DC

