/- The chapter voice, as plain functions (11): the reference's table, filled place by place, piece by piece, time by time. -/
import Derived.Test.YtcbkaiakncbcbaaDoorVpa
set_option linter.all false
namespace Go.RS.DC
open Go Go.RS
open Go.RS.Enc (enc dec)
section
variable {b : Book} {text : List Int} {from_ : Int}
/-- What has been written, up to a place, a piece, a time. -/
def Before (p i : Nat) (a : Int) (p' i' : Nat) (a' : Int) : Prop := p' < p ∨ p' = p ∧ (i' < i ∨ i' = i ∧ a' < a)
def ProcS (b : Book) (text : List Int) (from_ : Int) (p i : Nat) (a : Int) (q : Nat) (t n x : Int) : Prop :=
  ∃ p' i' a', Before p i a p' i' a' ∧ i' < b.Pieces.length ∧ fitsB (pieceN b i') text p' = true ∧ 0 ≤ a' ∧ from_ ≤ a' ∧ a' % discOf b (pieceN b i') = (pieceN b i').Begin ∧
    q = p' + (pieceN b i').Words.length ∧ t = a' + (pieceN b i').Long ∧ CandS b text from_ p' i' a' n x
theorem proc_start {q : Nat} {t n x : Int} : ¬ ProcS b text from_ 0 0 from_ q t n x := by
  rintro ⟨p', i', a', h, _, _, _, h2, _⟩
  unfold Before at h
  omega
theorem proc_imp {p i j k : Nat} {a c : Int} {q : Nat} {t n x : Int} (h : ∀ p' i' a', Before p i a p' i' a' → i' < b.Pieces.length → fitsB (pieceN b i') text p' = true → from_ ≤ a' → a' % discOf b (pieceN b i') = (pieceN b i').Begin → t = a' + (pieceN b i').Long → Before j k c p' i' a') :
    ProcS b text from_ p i a q t n x → ProcS b text from_ j k c q t n x := by
  rintro ⟨p', i', a', h1, h2, h3, h4, h5, h6, h7, h8, h9⟩
  exact ⟨p', i', a', h p' i' a' h1 h2 h3 h5 h6 h8, h2, h3, h4, h5, h6, h7, h8, h9⟩
/-- A piece that does not fit. -/
theorem proc_skip {p i : Nat} (hf : ¬ fitsB (pieceN b i) text p = true) (q : Nat) (t n x : Int) : ProcS b text from_ p i from_ q t n x ↔ ProcS b text from_ p (i + 1) from_ q t n x := by
  constructor
  · exact proc_imp fun p' i' a' h _ _ _ _ _ => by unfold Before at h ⊢; omega
  · refine proc_imp fun p' i' a' h _ hf' h5 _ _ => ?_
    unfold Before at h ⊢
    by_cases hi : i' = i
    · subst hi
      by_cases hp : p' = p
      · subst hp; exact absurd hf' hf
      · omega
    · omega
/-- Up to the first time there is none. -/
theorem proc_first {p i : Nat} {A : Int} (hA : ∀ k, from_ ≤ k → k % discOf b (pieceN b i) = (pieceN b i).Begin → A ≤ k) (hA0 : from_ ≤ A) (q : Nat) (t n x : Int) : ProcS b text from_ p i from_ q t n x ↔ ProcS b text from_ p i A q t n x := by
  constructor
  · exact proc_imp fun p' i' a' h _ _ _ _ _ => by unfold Before at h ⊢; omega
  · refine proc_imp fun p' i' a' h _ _ h5 h6 _ => ?_
    unfold Before at h ⊢
    by_cases hi : i' = i
    · subst hi
      have := hA a' h5 h6
      omega
    · omega
/-- One time more. -/
theorem proc_step {p i : Nat} {A T : Int} (hi : i < b.Pieces.length) (hf : fitsB (pieceN b i) text p = true) (h0 : 0 ≤ A) (hA : from_ ≤ A) (hm : A % discOf b (pieceN b i) = (pieceN b i).Begin) (hT : discOf b (pieceN b i) = T) (hT1 : 1 ≤ T) (q : Nat) (t n x : Int) :
    ProcS b text from_ p i (A + T) q t n x ↔ (ProcS b text from_ p i A q t n x ∨ (q = p + (pieceN b i).Words.length ∧ t = A + (pieceN b i).Long ∧ CandS b text from_ p i A n x)) := by
  constructor
  · rintro ⟨p', i', a', h1, h2, h3, h4, h5, h6, h7, h8, h9⟩
    by_cases hn : p' = p ∧ i' = i ∧ a' = A
    · obtain ⟨rfl, rfl, rfl⟩ := hn
      exact .inr ⟨h7, h8, h9⟩
    · left
      refine ⟨p', i', a', ?_, h2, h3, h4, h5, h6, h7, h8, h9⟩
      unfold Before at h1 ⊢
      rcases h1 with h1 | ⟨h1, h10 | ⟨h10, h11⟩⟩
      · omega
      · omega
      · subst h1; subst h10
        right; refine ⟨rfl, .inr ⟨rfl, ?_⟩⟩
        by_cases hlt : a' < A
        · exact hlt
        · exfalso
          have hne : a' ≠ A := fun he => hn ⟨rfl, rfl, he⟩
          rw [hT] at h6 hm
          have hz : (a' - A) % T = 0 := Int.emod_eq_emod_iff_emod_sub_eq_zero.1 (h6.trans hm.symm)
          have hd : T ∣ a' - A := Int.dvd_of_emod_eq_zero hz
          have := Int.le_of_dvd (by omega) hd
          omega
  · rintro (h | ⟨h7, h8, h9⟩)
    · exact proc_imp (fun p' i' a' h _ _ _ _ _ => by unfold Before at h ⊢; omega) h
    · exact ⟨p, i, A, .inr ⟨rfl, .inr ⟨rfl, by omega⟩⟩, hi, hf, h0, hA, hm, h7, h8, h9⟩
/-- Behind the last time there is none. -/
theorem proc_last {p i : Nat} {A pip : Int} (hA : pip < A + (pieceN b i).Long) (hA0 : from_ ≤ A) (q : Nat) {t : Int} (ht : t ≤ pip) (n x : Int) : ProcS b text from_ p i A q t n x ↔ ProcS b text from_ p (i + 1) from_ q t n x := by
  constructor
  · exact proc_imp fun p' i' a' h _ _ _ _ _ => by unfold Before at h ⊢; omega
  · refine proc_imp fun p' i' a' h _ _ h5 h6 h8 => ?_
    unfold Before at h ⊢
    by_cases hi : i' = i
    · subst hi; omega
    · omega
theorem proc_next {p : Nat} (q : Nat) (t n x : Int) : ProcS b text from_ p b.Pieces.length from_ q t n x ↔ ProcS b text from_ (p + 1) 0 from_ q t n x := by
  constructor
  · exact proc_imp fun p' i' a' h _ _ _ _ _ => by unfold Before at h ⊢; omega
  · refine proc_imp fun p' i' a' h h2 _ _ _ _ => ?_
    unfold Before at h ⊢; omega
/-- A row is whole when its place is reached. -/
theorem proc_row (o : BookOk b) {p i : Nat} {a : Int} {q : Nat} (hq : q ≤ p) (t n x : Int) : ProcS b text from_ p i a q t n x ↔ RowS b text from_ q t n x := by
  rw [row_last o]
  constructor
  · rintro ⟨p', i', a', _, h⟩; exact ⟨p', i', a', h⟩
  · rintro ⟨p', i', a', h2, h3, h4, h5, h6, h7, h8⟩
    have w1 := (pieceN_ok o h2).w1
    exact ⟨p', i', a', .inl (by omega), h2, h3, h4, h5, h6, h7, h8⟩
end
/-! ### What can have ended before -/
/-- Of a row, from a time to a time (the end excluded), each with so many pieces more. -/
def RangeS (b : Book) (text : List Int) (from_ : Int) (p : Nat) (d lo hi n x : Int) : Prop := ∃ u, lo ≤ u ∧ u < hi ∧ RowS b text from_ p u (n - d) x
theorem isBest_plus {S : Int → Int → Prop} {e : End} (h : IsBest S e) (hp : 1 ≤ e.pieces) (d : Int) (hd : 0 ≤ d) : IsBest (fun n x => S (n - d) x) ⟨e.pieces + d, e.first⟩ := by
  rcases h with ⟨_, rfl⟩ | ⟨_, ⟨a, h2⟩, h3, ⟨n, h4⟩, h5⟩
  · simp at hp
  · refine .inr ⟨by simp only; omega, ⟨a, ?_⟩, fun n x hx => ?_, ⟨n + d, ?_⟩, fun n x hx => h5 _ _ hx⟩
    · show S (e.pieces + d - d) a
      rw [Int.add_sub_cancel]; exact h2
    · have := h3 _ _ hx; simp only; omega
    · show S (n + d - d) e.first
      rw [Int.add_sub_cancel]; exact h4
/-- One time more of a row. -/
def addE (d : Int) (out e : End) : End := if 1 ≤ e.pieces then betterE out ⟨e.pieces + d, e.first⟩ else out
theorem range_none (b : Book) (text : List Int) (from_ : Int) (p : Nat) (d lo : Int) : IsBest (RangeS b text from_ p d lo lo) ⟨0, 0⟩ := .inl ⟨fun n x h => by obtain ⟨u, h1, h2, _⟩ := h; omega, rfl⟩
theorem range_step {b : Book} {text : List Int} {from_ : Int} {p : Nat} {d lo hi : Int} {out e : End} (hd : 0 ≤ d) (hlo : lo ≤ hi) (ho : IsBest (RangeS b text from_ p d lo hi) out) (he : IsBest (RowS b text from_ p hi) e) : IsBest (RangeS b text from_ p d lo (hi + 1)) (addE d out e) := by
  unfold addE
  by_cases hp : 1 ≤ e.pieces
  · rw [if_pos hp]
    refine isBest_congr ?_ (better_ok ho (isBest_plus he hp d hd) (by simp only; omega))
    intro n x
    constructor
    · rintro (⟨u, h1, h2, h3⟩ | h)
      · exact ⟨u, h1, by omega, h3⟩
      · exact ⟨hi, hlo, by omega, h⟩
    · rintro ⟨u, h1, h2, h3⟩
      by_cases hu : u = hi
      · subst hu; exact .inr h3
      · exact .inl ⟨u, h1, by omega, h3⟩
  · rw [if_neg hp]
    have hno : ∀ n x, ¬ RowS b text from_ p hi n x := by
      rcases isBest_pos he with ⟨_, h⟩ | ⟨h, _⟩
      · exact h
      · exact absurd h hp
    refine isBest_congr ?_ ho
    intro n x
    constructor
    · rintro ⟨u, h1, h2, h3⟩; exact ⟨u, h1, by omega, h3⟩
    · rintro ⟨u, h1, h2, h3⟩
      by_cases hu : u = hi
      · subst hu; exact absurd h3 (hno _ _)
      · exact ⟨u, h1, by omega, h3⟩
/-- What a piece behind others lets end. -/
theorem cand_range {b : Book} (o : BookOk b) {text : List Int} {from_ : Int} {p i : Nat} (hp : 0 < p) {A lo : Int} (hlo : lo = max from_ (A - b.Pause.High)) (n x : Int) : RangeS b text from_ p 1 lo (A - b.Pause.Low + 1) n x ↔ CandS b text from_ p i A n x := by
  unfold CandS RangeS
  constructor
  · rintro ⟨u, h1, h2, h3⟩
    have := Int.le_max_right from_ (A - b.Pause.High)
    exact .inr ⟨hp, u, by omega, by omega, h3⟩
  · rintro (⟨h, _⟩ | ⟨_, u, h1, h2, h3⟩)
    · omega
    · have := row_later o h3
      refine ⟨u, ?_, by omega, h3⟩
      rw [hlo]; exact Int.max_le.2 ⟨by omega, h1⟩
theorem cand_none {b : Book} (o : BookOk b) {text : List Int} {from_ : Int} {p i : Nat} (hp : 0 < p) {A lo : Int} (hlo : lo = max from_ (A - b.Pause.High)) (hh : A - b.Pause.Low + 1 ≤ lo) (n x : Int) : ¬ CandS b text from_ p i A n x := fun h => by
  obtain ⟨u, h1, h2, _⟩ := (cand_range o hp hlo n x).2 h
  omega
theorem cand_zero {b : Book} {text : List Int} {from_ : Int} {i : Nat} (A : Int) : IsBest (CandS b text from_ 0 i A) ⟨1, A⟩ := by
  refine .inr ⟨Int.le_refl 1, ⟨A, .inl ⟨rfl, rfl, rfl⟩⟩, fun n x h => ?_, ⟨1, .inl ⟨rfl, rfl, rfl⟩⟩, fun n x h => ?_⟩
  · rcases h with ⟨_, rfl, rfl⟩ | ⟨h, _⟩
    · exact Int.le_refl _
    · omega
  · rcases h with ⟨_, rfl, rfl⟩ | ⟨h, _⟩
    · exact Int.le_refl _
    · omega
end Go.RS.DC

