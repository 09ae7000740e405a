/- The chapter court, as plain functions (7): a case made wider. -/
import Derived.Test.YtmlogniaahnamaaDoorCla
set_option linter.all false
namespace Go.RS.DC
open Go Go.RS
open Go.RS.Enc (enc dec)
def widerE (n kind by_ : Int) (y : Entry) : Entry :=
  if kind = 2 then ⟨⟨max 0 (y.When.Low - by_), min (n - 1) (y.When.High + by_)⟩, y.Late, y.Reading⟩
  else ⟨y.When, ⟨max 0 (y.Late.Low - by_), min 60 (y.Late.High + by_)⟩, y.Reading⟩
def widerG (c : Case) (n kind by_ : Int) (i : Nat) : Case :=
  if kind = 0 then ⟨c.Calendar, c.Town, c.Each, min 3 (c.Step + by_), c.First, c.Log⟩
  else if kind = 1 then ⟨c.Calendar, c.Town, c.Each, c.Step, ⟨max (-30) (c.First.Low - by_), min 30 (c.First.High + by_)⟩, c.Log⟩
  else ⟨c.Calendar, c.Town, c.Each, c.Step, c.First, c.Log.modify i (widerE n kind by_)⟩
theorem mem_modify {α : Type} {f : α → α} {l : List α} {i : Nat} {x : α} (h : x ∈ l.modify i f) : x ∈ l ∨ ∃ y ∈ l, x = f y := by
  obtain ⟨j, hj, rfl⟩ := List.getElem_of_mem h
  rw [List.getElem_modify]
  split
  · exact .inr ⟨_, List.getElem_mem _, rfl⟩
  · exact .inl (List.getElem_mem _)
theorem widerE_ok {n kind by_ : Int} {y : Entry} (h0 : 0 ≤ by_) (hn : 1 ≤ n) (h : entOk n y = true) : entOk n (widerE n kind by_ y) = true := by
  simp only [entOk, Bool.and_eq_true, spanOk_iff] at h ⊢
  unfold widerE
  split <;> simp only <;> omega
theorem wider_ok {c : Case} (h : okK c = true) {kind by_ : Int} {i : Nat} (h0 : 0 ≤ by_) : okK (widerG c (allR c.Calendar) kind by_ i) = true ∧ WiderK c (widerG c (allR c.Calendar) kind by_ i) := by
  have o := okK_ok h
  have a1 := o.a1
  have f0 := o.f0
  have f1 := o.f1
  have f2 := o.f2
  have s0 := o.s0
  have s3 := o.s3
  have hh := h
  unfold widerG
  split
  · refine ⟨?_, ⟨rfl, rfl, rfl, ?_, Int.le_refl _, Int.le_refl _, fun e he => ⟨e, he, rfl, Int.le_refl _, Int.le_refl _⟩⟩⟩
    · simp only [okK, headK, stagesI, Bool.and_eq_true, decide_eq_true_eq, wi_iff, spanOk_iff] at h ⊢
      obtain ⟨⟨⟨⟨⟨⟨h1, h2⟩, h3⟩, h4⟩, h5⟩, h6⟩, h7⟩ := h
      exact ⟨⟨⟨⟨⟨⟨h1, h2⟩, by omega⟩, h4⟩, h5⟩, h6⟩, h7⟩
    · simp only; omega
  · split
    · refine ⟨?_, ⟨rfl, rfl, rfl, Int.le_refl _, ?_, ?_, fun e he => ⟨e, he, rfl, Int.le_refl _, Int.le_refl _⟩⟩⟩
      · simp only [okK, headK, stagesI, Bool.and_eq_true, decide_eq_true_eq, wi_iff, spanOk_iff] at h ⊢
        obtain ⟨⟨⟨⟨⟨⟨h1, h2⟩, h3⟩, h4⟩, h5⟩, h6⟩, h7⟩ := h
        exact ⟨⟨⟨⟨⟨⟨h1, h2⟩, h3⟩, by omega⟩, h5⟩, h6⟩, h7⟩
      · simp only; omega
      · simp only; omega
    · refine ⟨?_, ⟨rfl, rfl, rfl, Int.le_refl _, Int.le_refl _, Int.le_refl _, fun e he => ?_⟩⟩
      · simp only [okK, headK, stagesI, Bool.and_eq_true, decide_eq_true_eq, wi_iff, spanOk_iff, List.length_modify, List.all_eq_true] at h ⊢
        obtain ⟨⟨⟨⟨⟨⟨h1, h2⟩, h3⟩, h4⟩, h5⟩, h6⟩, h7⟩ := h
        refine ⟨⟨⟨⟨⟨⟨h1, h2⟩, h3⟩, h4⟩, h5⟩, h6⟩, fun x hx => ?_⟩
        rcases mem_modify hx with hx | ⟨y, hy, rfl⟩
        · exact h7 x hx
        · exact widerE_ok h0 a1 (h7 y hy)
      · rcases mem_modify he with he | ⟨y, hy, rfl⟩
        · exact ⟨e, he, rfl, Int.le_refl _, Int.le_refl _⟩
        · obtain ⟨x0, x1, x2, x3, x4, x5⟩ := o.en y hy
          refine ⟨y, hy, ?_, ?_, ?_⟩ <;> unfold widerE <;> split <;> first | rfl | (simp only; omega)
end Go.RS.DC

/- Walks: the law CourtWider. -/
namespace Go.RS.DC
open Go Go.RS
open Go.RS.Enc (enc dec)
variable {E : VEnv}
theorem splice_E (l : List Entry) (i : Nat) (h : i < l.length) (x : Entry) : List.take (i * 8) (encL l) ++ (El.cells x ++ List.drop (i * 8 + 8) (encL l)) = encL (l.set i x) := by
  rw [take_Entry, show i * 8 + 8 = (i + 1) * 8 by omega, drop_Entry, List.set_eq_take_append_cons_drop, if_pos h, ← encL_append, encL_cons]
theorem find_in {y : Int} {l : List Int} (h : y ∈ l) : 0 ≤ findR y 0 l := by
  rcases findR_some y l 0 with ⟨_, h2⟩ | ⟨h1, _⟩
  · rw [List.contains_iff_mem.2 h] at h2; cases h2
  · exact h1
theorem decC (cal : Cal) (town : Town) (each step : Int) (first : Span) : (dec (PV.agg [enc cal.Hours, enc cal.Minutes, enc cal.Seconds, enc cal.Days, enc cal.Decrees, enc town.Ahead, enc town.Changes, enc each, enc step, enc first.Low, enc first.High, .lst true 0 0 []]) : Option Case) = some ⟨cal, town, each, step, first, []⟩ := by
  have := Enc.dec_enc (α := Case) ⟨cal, town, each, step, first, []⟩
  exact this
set_option maxHeartbeats 1600000 in
set_option maxRecDepth 20000 in
theorem l_Wider (hE : E.env.fn = G) (hgl : E.gl 1 = some [f130v, f131v]) (hgk : E.gl 0 = some kindsV) (c : Case) (k : K4) : VP E 5 [enc c, enc k] (.bool true) := by
  have good := goodV_cons (k_sound hE) (goodV_cons (k_works hE hgl hgk) (goodV_cons (w_Rest hE) (goodV_cons (w_To hE) (goodV_cons (k_Errors hE hgl) (goodV_cons (k_all hE) goodV_nil)))))
  have h4 := k4_cells k
  cases ho : okK c
  · have hs : soundK c = 0 := by unfold soundK; rw [ho]; rfl
    refine VP.run (A := F5) (good) [] (by rw [hE]; rfl) (by simp [F5]) ?_; unfold F5; simp (implicitDefEqProofs := false) [enc_list, enc_Arr, h4, hs]
  · have hs : soundK c = allR c.Calendar := by unfold soundK; rw [ho]; rfl
    have o := okK_ok ho
    have a1 := o.a1
    have a2 := o.a2
    have s0 := o.s0
    have s3 := o.s3
    have f0 := o.f0
    have f1 := o.f1
    have f2 := o.f2
    have hn0 : ¬ allR c.Calendar = 0 := by omega
    have r1 : restF (kAt k 1) 4 = some (kAt k 1 % 4) := if_pos ⟨by omega, by omega⟩
    have r0 : restF (kAt k 0) 4 = some (kAt k 0 % 4) := if_pos ⟨by omega, by omega⟩
    have b1 := Int.emod_nonneg (kAt k 1) (show (4 : Int) ≠ 0 by omega)
    have b1' := Int.emod_lt_of_pos (kAt k 1) (show (0 : Int) < 4 by omega)
    have r3 : restF (kAt k 3) (allR c.Calendar) = some (kAt k 3 % allR c.Calendar) := if_pos ⟨by omega, by omega⟩
    have t0 := Int.emod_nonneg (kAt k 3) (show allR c.Calendar ≠ 0 by omega)
    have t1 := Int.emod_lt_of_pos (kAt k 3) (show 0 < allR c.Calendar by omega)
    generalize kAt k 1 % 4 = by_ at *
    generalize kAt k 0 % 4 = kind at *
    generalize kAt k 3 % allR c.Calendar = t at *
    refine VP.func (A := F5) (by rw [hE]; rfl) (by simp [F5]) ?_; unfold F5
    refine VW.seq (VW.run good [] ?_); simp (implicitDefEqProofs := false) [enc_list, enc_Arr, h4]
    refine VW.seq (VW.run good [] ?_); simp (implicitDefEqProofs := false) [enc_list, hs]
    refine VW.seq (VW.run good [] ?_); simp (implicitDefEqProofs := false) [enc_list, hn0]
    refine VW.seq (VW.run good [] ?_); simp (implicitDefEqProofs := false) [enc_list, spliceV]
    by_cases hl0 : c.Log = []
    · have hl0' : c.Log.length = 0 := by rw [hl0]; rfl
      have he0 : encL c.Log = [] := by rw [hl0]; rfl
      refine VW.seq (VW.run good [] ?_); simp (implicitDefEqProofs := false) [enc_list, hl0', he0, appendV, newVec, okE, elemsV, spliceV]
      refine VW.seq (VW.run good [] ?_); simp (implicitDefEqProofs := false) [enc_list, r1]
      refine VW.seq (VW.run good [] ?_); simp (implicitDefEqProofs := false) [enc_list, r0]
      have hW := wider_ok ho (kind := kind) (i := 0) b1
      obtain ⟨d, hd⟩ : ∃ d, widerG c (allR c.Calendar) kind by_ 0 = d := ⟨_, rfl⟩
      rw [hd] at hW
      have hdl : encL d.Log = [] ∧ d.Log.length = 0 := by
        rw [← hd]; unfold widerG
        split
        · exact ⟨he0, hl0'⟩
        · split
          · exact ⟨he0, hl0'⟩
          · simp [hl0]
      refine VW.seq_cut [(2, .ptr 0 12 0), (3, .ptr 1 4 0), (5, .int .i64 (allR c.Calendar)), (6, .ptr 2 12 0)] [ccl c, .cells [.int .i64 (kAt k 0), .int .i64 (kAt k 1), .int .i64 (kAt k 2), .int .i64 (kAt k 3)], .cells [enc d.Calendar.Hours, enc d.Calendar.Minutes, enc d.Calendar.Seconds, enc d.Calendar.Days, enc d.Calendar.Decrees, enc d.Town.Ahead, enc d.Town.Changes, enc d.Each, enc d.Step, enc d.First.Low, enc d.First.High, .lst true 0 0 []]] (VW.run good [] ?_) ?_
      · unfold widerG at hd
        by_cases k0 : kind = 0
        · rw [if_pos k0] at hd
          subst hd
          have w1 : IntKind.i64.wrap (c.Step + by_) = c.Step + by_ := wrap64 (by omega) (by omega)
          have m1 : (if c.Step + by_ < 3 then c.Step + by_ else 3) = min 3 (c.Step + by_) := by split <;> omega
          simp (implicitDefEqProofs := false) [enc_list, k0, w1, m1, spliceV]
          exact ⟨3, [], by simp [enc_list,  he0, hl0'], by simp, by simp, by simp (implicitDefEqProofs := false) [enc_list,  he0, hl0'], by simp (implicitDefEqProofs := false) [enc_list,  he0, hl0']⟩
        · rw [if_neg k0] at hd
          by_cases k1 : kind = 1
          · rw [if_pos k1] at hd
            subst hd
            have w1 : IntKind.i64.wrap (c.First.Low - by_) = c.First.Low - by_ := wrap64 (by omega) (by omega)
            have w2 : IntKind.i64.wrap (c.First.High + by_) = c.First.High + by_ := wrap64 (by omega) (by omega)
            have m1 : (if -30 < c.First.Low - by_ then c.First.Low - by_ else -30) = max (-30) (c.First.Low - by_) := by split <;> omega
            have m2 : (if c.First.High + by_ < 30 then c.First.High + by_ else 30) = min 30 (c.First.High + by_) := by split <;> omega
            simp (implicitDefEqProofs := false) [enc_list, k1, w1, w2, m1, m2, spliceV]
            exact ⟨3, [], by simp [enc_list,  he0, hl0'], by simp, by simp, by simp (implicitDefEqProofs := false) [enc_list,  he0, hl0'], by simp (implicitDefEqProofs := false) [enc_list,  he0, hl0']⟩
          · rw [if_neg k1] at hd
            subst hd
            simp (implicitDefEqProofs := false) [enc_list, k0, k1, hl0', spliceV]
            exact ⟨3, [], by simp [enc_list,  he0, hl0'], by simp, by simp, by simp (implicitDefEqProofs := false) [enc_list,  he0, hl0'], by simp (implicitDefEqProofs := false) [enc_list,  he0, hl0']⟩
      · have hdec : (dec (PV.agg [.int .i64 d.Calendar.Hours, .int .i64 d.Calendar.Minutes, .int .i64 d.Calendar.Seconds, .int .i64 d.Calendar.Days, .lst false d.Calendar.Decrees.length 2 (encL d.Calendar.Decrees), .int .i64 d.Town.Ahead, .lst false d.Town.Changes.length 2 (encL d.Town.Changes), .int .i64 d.Each, .int .i64 d.Step, .int .i64 d.First.Low, .int .i64 d.First.High, .lst true 0 0 []]) : Option Case) = some d := by
          obtain ⟨cal, town, each, step, first, log⟩ := d
          have hln : log = [] := List.eq_nil_of_length_eq_zero hdl.2
          subst hln
          exact decC cal town each step first
        have hlaw := wider_lawK ho hW.1 hW.2 t0 t1
        refine VW.seq (VW.run good [] ?_); simp (implicitDefEqProofs := false) [enc_list, r3]
        rcases hlaw with ⟨g1, g2⟩ | ⟨g1, g2, g3⟩
        · obtain ⟨el, ee, he⟩ : ∃ el ee, ErrorsR d t = (el, ee) := ⟨_, _, rfl⟩
          rw [he] at g2
          refine VW.seq (VW.run good [] ?_); simp (implicitDefEqProofs := false) [enc_list, g1]
          refine VW.seq (VW.run good [] ?_); simp (implicitDefEqProofs := false) [enc_list, hdec, he]
          rcases g2 with rfl | rfl
          · refine VW.run good [] ?_; simp (implicitDefEqProofs := false) [enc_list]
          · refine VW.run good [] ?_; simp (implicitDefEqProofs := false) [enc_list]
        · have hall : allF (errL c (stageN c t)) (errL d (stageN c t)) = true := by
            unfold allF
            rw [List.all_eq_true]
            intro y hy
            exact decide_eq_true (find_in (g3 y hy))
          refine VW.seq (VW.run good [] ?_); simp (implicitDefEqProofs := false) [enc_list, g1]
          refine VW.seq (VW.run good [] ?_); simp (implicitDefEqProofs := false) [enc_list, hdec, g2]
          refine VW.run good [] ?_; simp (implicitDefEqProofs := false) [enc_list, hall]
    · have hfit : fits c.Log.length 64 = true := by have := o.l6; unfold fits; simp; omega
      have hfl : PV.isFL (encL c.Log) = true := encL_isF _
      have hle : (encL c.Log).length = c.Log.length * 8 := encL_length _
      have hne : ¬ encL c.Log = [] := fun h => hl0 (List.eq_nil_of_length_eq_zero (by rw [h] at hle; simp at hle; omega))
      refine VW.seq (VW.run good [] ?_); simp (implicitDefEqProofs := false) [enc_list, hl0, hfit, hfl, hne, hle, appendV, newVec, okE, elemsV, spliceV]
      refine VW.seq (VW.run good [] ?_); simp (implicitDefEqProofs := false) [enc_list, r1]
      refine VW.seq (VW.run good [] ?_); simp (implicitDefEqProofs := false) [enc_list, r0]
      have r2 : restF (kAt k 2) (c.Log.length : Int) = some (kAt k 2 % (c.Log.length : Int)) := by
        have := o.l6
        have hp : 0 < c.Log.length := List.length_pos_iff.2 hl0
        exact if_pos ⟨by omega, by omega⟩
      have hp : 0 < c.Log.length := List.length_pos_iff.2 hl0
      have hp' : (0 : Int) < (c.Log.length : Int) := by omega
      have i0 := Int.emod_nonneg (kAt k 2) (show (c.Log.length : Int) ≠ 0 by omega)
      have i1 := Int.emod_lt_of_pos (kAt k 2) hp'
      obtain ⟨i, hi⟩ : ∃ i : Nat, kAt k 2 % (c.Log.length : Int) = i := ⟨(kAt k 2 % (c.Log.length : Int)).toNat, by omega⟩
      rw [hi] at r2 i1
      have hil : i < c.Log.length := by omega
      have hW := wider_ok ho (kind := kind) (i := i) b1
      obtain ⟨d, hd⟩ : ∃ d, widerG c (allR c.Calendar) kind by_ i = d := ⟨_, rfl⟩
      rw [hd] at hW
      have hdl : d.Log.length = c.Log.length := by
        rw [← hd]; unfold widerG
        split
        · rfl
        · split
          · rfl
          · simp
      refine VW.seq_cut [(2, .ptr 0 12 0), (3, .ptr 1 4 0), (5, .int .i64 (allR c.Calendar)), (6, .ptr 2 12 0)] [ccl c, .cells [.int .i64 (kAt k 0), .int .i64 (kAt k 1), .int .i64 (kAt k 2), .int .i64 (kAt k 3)], .cells [enc d.Calendar.Hours, enc d.Calendar.Minutes, enc d.Calendar.Seconds, enc d.Calendar.Days, enc d.Calendar.Decrees, enc d.Town.Ahead, enc d.Town.Changes, enc d.Each, enc d.Step, enc d.First.Low, enc d.First.High, .sl 3 (d.Log.length * 8) 0 d.Log.length (openCap + 8) 8], .vec (encL d.Log)] (VW.run good [] ?_) ?_
      · unfold widerG at hd
        by_cases k0 : kind = 0
        · rw [if_pos k0] at hd
          subst hd
          have w1 : IntKind.i64.wrap (c.Step + by_) = c.Step + by_ := wrap64 (by omega) (by omega)
          have m1 : (if c.Step + by_ < 3 then c.Step + by_ else 3) = min 3 (c.Step + by_) := by split <;> omega
          simp (implicitDefEqProofs := false) [enc_list, k0, w1, m1, spliceV]
          exact ⟨4, [], by simp [enc_list], by simp, by simp, by simp (implicitDefEqProofs := false) [enc_list], by simp (implicitDefEqProofs := false) [enc_list]⟩
        · rw [if_neg k0] at hd
          by_cases k1 : kind = 1
          · rw [if_pos k1] at hd
            subst hd
            have w1 : IntKind.i64.wrap (c.First.Low - by_) = c.First.Low - by_ := wrap64 (by omega) (by omega)
            have w2 : IntKind.i64.wrap (c.First.High + by_) = c.First.High + by_ := wrap64 (by omega) (by omega)
            have m1 : (if -30 < c.First.Low - by_ then c.First.Low - by_ else -30) = max (-30) (c.First.Low - by_) := by split <;> omega
            have m2 : (if c.First.High + by_ < 30 then c.First.High + by_ else 30) = min 30 (c.First.High + by_) := by split <;> omega
            simp (implicitDefEqProofs := false) [enc_list, k1, w1, w2, m1, m2, spliceV]
            exact ⟨4, [], by simp [enc_list], by simp, by simp, by simp (implicitDefEqProofs := false) [enc_list], by simp (implicitDefEqProofs := false) [enc_list]⟩
          · rw [if_neg k1] at hd
            subst hd
            have hle : (encL c.Log).length = c.Log.length * 8 := encL_length _
            obtain ⟨x0, x1, x2, x3, x4, x5⟩ := o.en c.Log[i] (List.getElem_mem hil)
            have hg := get_Entry c.Log i hil
            have hmod : c.Log.modify i (widerE (allR c.Calendar) kind by_) = c.Log.set i (widerE (allR c.Calendar) kind by_ c.Log[i]) := by
              apply List.ext_getElem?
              intro j
              rw [List.getElem?_modify, List.getElem?_set]
              by_cases hj : i = j
              · subst hj; simp [hil]
              · simp [hj]
            rw [hmod]
            generalize hy : c.Log[i] = y at *
            have w1 : IntKind.i64.wrap (y.When.Low - by_) = y.When.Low - by_ := wrap64 (by omega) (by omega)
            have w2 : IntKind.i64.wrap (y.When.High + by_) = y.When.High + by_ := wrap64 (by omega) (by omega)
            have w3 : IntKind.i64.wrap (y.Late.Low - by_) = y.Late.Low - by_ := wrap64 (by omega) (by omega)
            have w4 : IntKind.i64.wrap (y.Late.High + by_) = y.Late.High + by_ := wrap64 (by omega) (by omega)
            have w5 : IntKind.i64.wrap (allR c.Calendar - 1) = allR c.Calendar - 1 := wrap64 (by omega) (by omega)
            have h8 : i * 8 + 8 ≤ c.Log.length * 8 := by omega
            have hsp := fun x => splice_E c.Log i hil x
            have n1 : (if by_ < y.When.Low then y.When.Low - by_ else 0) = max 0 (y.When.Low - by_) := by split <;> omega
            have n2 : (if y.When.High + by_ < allR c.Calendar - 1 then y.When.High + by_ else allR c.Calendar - 1) = min (allR c.Calendar - 1) (y.When.High + by_) := by split <;> omega
            have n3 : (if by_ < y.Late.Low then y.Late.Low - by_ else 0) = max 0 (y.Late.Low - by_) := by split <;> omega
            have n4 : (if y.Late.High + by_ < 60 then y.Late.High + by_ else 60) = min 60 (y.Late.High + by_) := by split <;> omega
            by_cases k2 : kind = 2
            · have hE2 : widerE (allR c.Calendar) kind by_ y = ⟨⟨max 0 (y.When.Low - by_), min (allR c.Calendar - 1) (y.When.High + by_)⟩, y.Late, y.Reading⟩ := if_pos k2
              rw [hE2]
              simp (implicitDefEqProofs := false) [enc_list, k0, k1, k2, hp, hp', r2, hil, i1, hg, hle, w1, w2, w3, w4, w5, h8, n1, n2, n3, n4, spliceV]
              rw [← splice_E c.Log i hil]
              exact ⟨4, [], by simp [enc_list], by simp, by simp, by simp (implicitDefEqProofs := false) [enc_list], by simp (implicitDefEqProofs := false) [enc_list]⟩
            · have hE2 : widerE (allR c.Calendar) kind by_ y = ⟨y.When, ⟨max 0 (y.Late.Low - by_), min 60 (y.Late.High + by_)⟩, y.Reading⟩ := if_neg k2
              rw [hE2]
              simp (implicitDefEqProofs := false) [enc_list, k0, k1, k2, hp, hp', r2, hil, i1, hg, hle, w1, w2, w3, w4, w5, h8, n1, n2, n3, n4, spliceV]
              rw [← splice_E c.Log i hil]
              exact ⟨4, [], by simp [enc_list], by simp, by simp, by simp (implicitDefEqProofs := false) [enc_list], by simp (implicitDefEqProofs := false) [enc_list]⟩
      · refine VW.freezeM (t := 3) (len := d.Log.length * 8) (o := 0) (q := d.Log.length) (cap := openCap + 8) (e := 8) (cs := _) 2 11 rfl rfl (by decide) ?_
        obtain ⟨MM, hMM⟩ : ∃ MM : VM, [ccl c, .cells [.int .i64 (kAt k 0), .int .i64 (kAt k 1), .int .i64 (kAt k 2), .int .i64 (kAt k 3)], .cells [enc d.Calendar.Hours, enc d.Calendar.Minutes, enc d.Calendar.Seconds, enc d.Calendar.Days, enc d.Calendar.Decrees, enc d.Town.Ahead, enc d.Town.Changes, enc d.Each, enc d.Step, enc d.First.Low, enc d.First.High, .sl 3 (d.Log.length * 8) 0 d.Log.length (openCap + 8) 8], .vec (encL d.Log)] = MM := ⟨_, rfl⟩
        have hfz : fzSl MM 3 (d.Log.length * 8) 0 d.Log.length (openCap + 8) 8 = .lst (openCap + 8 == d.Log.length) d.Log.length 8 (encL d.Log) := by
          have := fzSl_vec (α := Entry) MM 3 d.Log (by rw [← hMM]; rfl) (by decide)
          rwa [if_neg (by rw [hdl]; omega)] at this
        rw [hMM, hfz, ← hMM]
        generalize (openCap + 8 == d.Log.length) = bx
        simp only [List.set_cons_succ, List.set_cons_zero]
        have hdec : (dec (PV.agg [.int .i64 d.Calendar.Hours, .int .i64 d.Calendar.Minutes, .int .i64 d.Calendar.Seconds, .int .i64 d.Calendar.Days, .lst false d.Calendar.Decrees.length 2 (encL d.Calendar.Decrees), .int .i64 d.Town.Ahead, .lst false d.Town.Changes.length 2 (encL d.Town.Changes), .int .i64 d.Each, .int .i64 d.Step, .int .i64 d.First.Low, .int .i64 d.First.High, .lst bx d.Log.length 8 (encL d.Log)]) : Option Case) = some d := by
          simp [enc_list]
        have hlaw := wider_lawK ho hW.1 hW.2 t0 t1
        refine VW.seq (VW.run good [] ?_); simp (implicitDefEqProofs := false) [enc_list, r3]
        rcases hlaw with ⟨g1, g2⟩ | ⟨g1, g2, g3⟩
        · obtain ⟨el, ee, he⟩ : ∃ el ee, ErrorsR d t = (el, ee) := ⟨_, _, rfl⟩
          rw [he] at g2
          refine VW.seq (VW.run good [] ?_); simp (implicitDefEqProofs := false) [enc_list, g1]
          refine VW.seq (VW.run good [] ?_); simp (implicitDefEqProofs := false) [enc_list, hdec, he]
          rcases g2 with rfl | rfl
          · refine VW.run good [] ?_; simp (implicitDefEqProofs := false) [enc_list]
          · refine VW.run good [] ?_; simp (implicitDefEqProofs := false) [enc_list]
        · have hall : allF (errL c (stageN c t)) (errL d (stageN c t)) = true := by
            unfold allF
            rw [List.all_eq_true]
            intro y hy
            exact decide_eq_true (find_in (g3 y hy))
          refine VW.seq (VW.run good [] ?_); simp (implicitDefEqProofs := false) [enc_list, g1]
          refine VW.seq (VW.run good [] ?_); simp (implicitDefEqProofs := false) [enc_list, hdec, g2]
          refine VW.run good [] ?_; simp (implicitDefEqProofs := false) [enc_list, hall]
end Go.RS.DC

