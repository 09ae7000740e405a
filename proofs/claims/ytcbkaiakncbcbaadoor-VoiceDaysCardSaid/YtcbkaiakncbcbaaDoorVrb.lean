/- Walks: the reference 05 (6): the table of what can end where, and when. -/
import Derived.Test.YtcbkaiakncbcbaaDoorVra
set_option linter.all false
namespace Go.RS.DC
open Go Go.RS
open Go.RS.Enc (enc dec)
variable {E : VEnv}
/-! ### The table in memory: rows before 'p' are not written any more, rows before 'k' are made -/
section
def slR (n q : Nat) : PV := .sl (2 + q) (n * 2) 0 n n 2
def lsR (n : Nat) (R : List End) : PV := .lst true n 2 (encL R)
def cel (n L p k : Nat) (R : Nat → List End) : List PV := (List.range L).map fun q => if q < p then lsR n (R q) else if q < k then slR n q else .nilS
def objs (p k : Nat) (R : Nat → List End) : VM := (List.range k).map fun q => if q < p then .gone else .vec (encL (R q))
def memT (b : Book) (n L p k : Nat) (R : Nat → List End) : VM := bcl b :: .cells (cel n L p k R) :: objs p k R
variable {b : Book} {n L p k : Nat} {R : Nat → List End}
theorem celLen : (cel n L p k R).length = L := by simp [cel]
theorem objsLen : (objs p k R).length = k := by simp [objs]
theorem memLen : (memT b n L p k R).length = k + 2 := by simp [memT, objsLen]
theorem celGet {q : Nat} (h : q < L) : (cel n L p k R)[q]? = some (if q < p then lsR n (R q) else if q < k then slR n q else .nilS) := by
  unfold cel
  rw [List.getElem?_map, List.getElem?_range h]; rfl
theorem celSl {q : Nat} (h : q < L) (hp : p ≤ q) (hk : q < k) : (cel n L p k R)[q]? = some (slR n q) := by
  rw [celGet h, if_neg (by omega), if_pos hk]
theorem celLs {q : Nat} (h : q < L) (hp : q < p) : (cel n L p k R)[q]? = some (lsR n (R q)) := by
  rw [celGet h, if_pos hp]
theorem objGet {q : Nat} (hp : p ≤ q) (hk : q < k) : (objs p k R)[q]? = some (.vec (encL (R q))) := by
  unfold objs
  rw [List.getElem?_map, List.getElem?_range hk]
  simp only [Option.map_some]
  rw [if_neg (by omega)]
theorem memGet {q : Nat} (hp : p ≤ q) (hk : q < k) : (memT b n L p k R)[2 + q]? = some (.vec (encL (R q))) := by
  rw [Nat.add_comm]; exact objGet hp hk
theorem memSet {q : Nat} (hp : p ≤ q) (hk : q < k) (row : List End) : (memT b n L p k R).set (2 + q) (.vec (encL row)) = memT b n L p k (fun x => if x = q then row else R x) := by
  rw [Nat.add_comm]
  unfold memT
  have h1 : cel n L p k R = cel n L p k (fun x => if x = q then row else R x) := by
    unfold cel
    refine List.map_congr_left fun x _ => ?_
    by_cases hx : x < p
    · have : x ≠ q := by omega
      simp [hx, this]
    · simp [hx]
  have h2 : (objs p k R).set q (.vec (encL row)) = objs p k (fun x => if x = q then row else R x) := by
    refine List.ext_getElem? fun x => ?_
    unfold objs
    rw [List.getElem?_set, List.getElem?_map, List.getElem?_map, List.length_map, List.length_range]
    by_cases hx : q = x
    · subst hx
      have : ¬ q < p := by omega
      rw [if_pos rfl, if_pos hk, List.getElem?_range hk]
      simp [this]
    · have : ¬ x = q := fun h => hx h.symm
      rw [if_neg hx]
      by_cases hxk : x < k
      · rw [List.getElem?_range hxk]
        simp [this]
      · rw [List.getElem?_eq_none (by simp; omega)]; rfl
  rw [← h1, ← h2]
  rfl
theorem memFreeze (hp : p < k) (hk : k ≤ L) : ((memT b n L p k R).set (2 + p) .gone).set 1 (.cells ((cel n L p k R).set p (lsR n (R p)))) = memT b n L (p + 1) k R := by
  have h1 : (cel n L p k R).set p (lsR n (R p)) = cel n L (p + 1) k R := by
    refine List.ext_getElem? fun x => ?_
    rw [List.getElem?_set, celLen]
    by_cases hx : p = x
    · subst hx
      rw [if_pos rfl, if_pos (by omega), celGet (by omega), if_pos (by omega)]
    · rw [if_neg hx]
      by_cases hxl : x < L
      · have e : (x < p + 1) = (x < p) := by apply propext; omega
        rw [celGet hxl, celGet hxl]
        simp only [e]
      · rw [List.getElem?_eq_none (by rw [celLen]; omega), List.getElem?_eq_none (by rw [celLen]; omega)]
  have h2 : (objs p k R).set p .gone = objs (p + 1) k R := by
    refine List.ext_getElem? fun x => ?_
    unfold objs
    rw [List.getElem?_set, List.getElem?_map, List.getElem?_map, List.length_map, List.length_range]
    by_cases hx : p = x
    · subst hx
      rw [if_pos rfl, if_pos hp, List.getElem?_range hp]
      simp
    · rw [if_neg hx]
      by_cases hxk : x < k
      · rw [List.getElem?_range hxk]
        simp only [Option.map_some]
        have e : (x < p + 1) = (x < p) := by apply propext; omega
        simp only [e]
      · rw [List.getElem?_eq_none (by simp; omega)]; rfl
  rw [h1, Nat.add_comm]
  unfold memT
  rw [← h2]
  rfl
/-- One row more. -/
theorem memGrow (hk : k < L) (row : List End) (hR : R k = row) : ((memT b n L 0 k R) ++ [VObj.vec (encL row)]).set 1 (.cells (spliceV (cel n L 0 k R) k [slR n k])) = memT b n L 0 (k + 1) R := by
  have h1 : spliceV (cel n L 0 k R) k [slR n k] = cel n L 0 (k + 1) R := by
    have e : spliceV (cel n L 0 k R) k [slR n k] = (cel n L 0 k R).set k (slR n k) := by
      unfold spliceV
      rw [List.set_eq_take_append_cons_drop, if_pos (by rw [celLen]; exact hk)]
      simp
    rw [e]
    refine List.ext_getElem? fun x => ?_
    rw [List.getElem?_set, celLen]
    by_cases hx : k = x
    · subst hx
      rw [if_pos rfl, if_pos hk, celGet hk, if_neg (by omega), if_pos (by omega)]
    · rw [if_neg hx]
      by_cases hxl : x < L
      · have e : (x < k + 1) = (x < k) := by apply propext; omega
        rw [celGet hxl, celGet hxl]
        simp only [e]
      · rw [List.getElem?_eq_none (by rw [celLen]; omega), List.getElem?_eq_none (by rw [celLen]; omega)]
  rw [h1]
  unfold memT objs
  rw [List.range_succ, List.map_append]
  simp [hR]
theorem celInit : cel n L 0 0 R = List.replicate L .nilS := by
  unfold cel
  refine List.ext_getElem? fun x => ?_
  by_cases hx : x < L
  · rw [List.getElem?_map, List.getElem?_range hx, List.getElem?_replicate, if_pos hx]; simp
  · rw [List.getElem?_eq_none (by simp; omega), List.getElem?_eq_none (by simp; omega)]
theorem slR_und {q j : Nat} (h : 2 + q < j) : (slR n q).und j = true := by unfold slR; simp; omega
theorem mem_und {j : Nat} (hj : k + 2 ≤ j) : ∀ o ∈ memT b n L p k R, o.und j := by
  intro o ho
  unfold memT at ho
  rcases List.mem_cons.1 ho with rfl | ho
  · simp (implicitDefEqProofs := false) [enc_list]
  · rcases List.mem_cons.1 ho with rfl | ho
    · intro v hv
      unfold cel at hv
      obtain ⟨q, _, rfl⟩ := List.mem_map.1 hv
      split
      · rfl
      · split
        · exact slR_und (by omega)
        · rfl
    · unfold objs at ho
      obtain ⟨q, _, rfl⟩ := List.mem_map.1 ho
      split <;> trivial
end
theorem zeroRow (n : Nat) : ((List.range (n * 2)).map fun i => PV.ofS (([Value.int .i64 0, .int .i64 0] : List Value)[i % 2]?.getD undef)) = encL (List.replicate n (⟨0, 0⟩ : End)) := by
  induction n with
  | zero => rfl
  | succ n ih =>
    have h1 : ∀ l : List End, encL (l ++ [(⟨0, 0⟩ : End)]) = encL l ++ [PV.int .i64 0, .int .i64 0] := fun l => (encL_snoc l ⟨0, 0⟩).symm
    rw [show (n + 1) * 2 = n * 2 + 1 + 1 by omega, List.range_succ, List.range_succ, List.map_append, List.map_append, ih, List.replicate_succ', h1, List.append_assoc]
    have e0 : n * 2 % 2 = 0 := by omega
    have e1 : (n * 2 + 1) % 2 = 1 := by omega
    simp [e0, e1]
theorem encL_set : ∀ (l : List End) (j : Nat) (e : End), j < l.length → spliceV (encL l) (j * 2) [.int .i64 e.pieces, .int .i64 e.first] = encL (l.set j e) := fun l j e hj => by
  unfold spliceV
  have h1 := take_End l j
  have h2 := drop_End l (j + 1)
  rw [show [PV.int .i64 e.pieces, PV.int .i64 e.first].length = 2 from rfl, show j * 2 + 2 = (j + 1) * 2 by omega, h1, h2, List.set_eq_take_append_cons_drop, if_pos hj]
  have h3 := snoc_End (l.take j) e
  have e3 : encL (l.take j) ++ [PV.int .i64 e.pieces, PV.int .i64 e.first] = encL (l.take j ++ [e]) := h3
  rw [e3, encL_append, List.append_assoc]; rfl
/-! ### What the table says -/
def rowT (u : Int) (n : Nat) (tab : Nat → Int → End) (q : Nat) : List End := (List.range n).map fun j => tab q (u + (j : Nat))
theorem rowTlen {u : Int} {n : Nat} {tab : Nat → Int → End} {q : Nat} : (rowT u n tab q).length = n := by simp [rowT]
theorem rowTget {u : Int} {n : Nat} {tab : Nat → Int → End} {q j : Nat} (h : j < n) : (rowT u n tab q)[j]? = some (tab q (u + (j : Nat))) := by
  unfold rowT
  rw [List.getElem?_map, List.getElem?_range h]; rfl
theorem rowTset {u : Int} {n : Nat} {tab : Nat → Int → End} {q j : Nat} {v : Int} {e : End} (h : j < n) (hv : v = u + (j : Nat)) :
    (fun x => if x = q then (rowT u n tab q).set j e else rowT u n tab x) = rowT u n (fun q' v' => if q' = q ∧ v' = v then e else tab q' v') := by
  funext x
  by_cases hx : x = q
  · subst hx
    rw [if_pos rfl]
    refine List.ext_getElem? fun i => ?_
    rw [List.getElem?_set, rowTlen]
    by_cases hi : i < n
    · rw [rowTget hi, rowTget hi]
      by_cases hij : j = i
      · subst hij
        rw [if_pos rfl, if_pos h, if_pos ⟨rfl, hv.symm⟩]
      · rw [if_neg hij, if_neg (fun hh => hij (by have := hh.2; omega))]
    · rw [if_neg (by omega), List.getElem?_eq_none (by rw [rowTlen]; omega), List.getElem?_eq_none (by rw [rowTlen]; omega)]
  · rw [if_neg hx]
    unfold rowT
    refine List.map_congr_left fun i _ => ?_
    simp [hx]
def TabOk (b : Book) (t : List Int) (u p : Int) (k i : Nat) (A : Int) (tab : Nat → Int → End) : Prop := ∀ q v, v ≤ p → IsBest (ProcS b t u k i A q v) (tab q v)
section
variable {b : Book} {t : List Int} {u p A : Int} {k i n : Nat} {tab : Nat → Int → End}
theorem row_best (o : BookOk b) (h : TabOk b t u p k i A tab) {q : Nat} (hq : q ≤ k) {v : Int} (hv : v ≤ p) : IsBest (RowS b t u q v) (tab q v) :=
  isBest_congr (fun x y => proc_row o hq v x y) (h q v hv)
theorem row_few (o : BookOk b) (ht : t.length ≤ 8) {q : Nat} {v x y : Int} (h : RowS b t u q v x y) : x ≤ 100 := by
  obtain ⟨s, l, h1, _, rfl, _⟩ := h
  have := chain_end o h1 (Nat.zero_le _)
  simp at this
  omega
theorem best_small (o : BookOk b) (ht : t.length ≤ 8) {q : Nat} {v : Int} {e : End} (h : IsBest (RowS b t u q v) e) : 0 ≤ e.pieces ∧ e.pieces ≤ 100 := by
  rcases h with ⟨_, rfl⟩ | ⟨h1, ⟨a, h2⟩, _⟩
  · exact ⟨Int.le_refl _, by decide⟩
  · exact ⟨by omega, row_few o ht h2⟩
theorem row_small (o : BookOk b) (ht : t.length ≤ 8) (h : TabOk b t u p k i A tab) (hn : (n : Int) = p - u + 1) {q : Nat} (hq : q ≤ k) : smallE (rowT u n tab q) := by
  intro e he
  obtain ⟨j, hj, rfl⟩ := List.mem_map.1 he
  rw [List.mem_range] at hj
  exact best_small o ht (row_best o h hq (by omega))
theorem range_all {lo' : Nat} {q : Nat} (h : ∀ v, v ≤ p → IsBest (RowS b t u q v) (tab q v)) (hn : (n : Int) = p - u + 1) (d : Int) (hd : 0 ≤ d) : ∀ m : Nat, lo' + m ≤ n → IsBest (RangeS b t u q d (u + (lo' : Nat)) (u + (lo' : Nat) + (m : Nat))) (rowF d (rowT u n tab q) lo' m)
  | 0, _ => by
    rw [show u + (lo' : Nat) + ((0 : Nat) : Int) = u + (lo' : Nat) by omega]
    exact range_none b t u q d _
  | m + 1, hm => by
    have ih := range_all (lo' := lo') h hn d hd m (by omega)
    have hg : (rowT u n tab q).getD (lo' + m) ⟨0, 0⟩ = tab q (u + (lo' : Nat) + (m : Nat)) := by
      rw [List.getD_eq_getElem?_getD, rowTget (n := n) (j := lo' + m) (by omega), Option.getD_some, show u + ((lo' + m : Nat) : Int) = u + (lo' : Nat) + (m : Nat) by omega]
    rw [rowF, hg, show u + (lo' : Nat) + ((m + 1 : Nat) : Int) = u + (lo' : Nat) + (m : Nat) + 1 by omega]
    exact range_step hd (by omega) ih (h _ (by omega))
theorem after_best (o : BookOk b) (h : TabOk b t u p k i A tab) (hn : (n : Int) = p - u + 1) (hk : 0 < k) {i' : Nat} {B : Int} (hA : u ≤ B) (hB : B ≤ p) : IsBest (CandS b t u k i' B) (rowF 1 (rowT u n tab k) (loA b (B - u)).toNat (nA b (B - u))) := by
  have a0 := o.a0
  have a1 := o.a1
  obtain ⟨lo, hlo⟩ : ∃ lo : Nat, loA b (B - u) = lo := ⟨(loA b (B - u)).toNat, by have := Int.le_max_left 0 (B - u - b.Pause.High); unfold loA; omega⟩
  have hlo2 : u + (lo : Int) = max u (B - b.Pause.High) := by
    rw [← hlo]; unfold loA; rw [Int.max_def, Int.max_def]; split <;> split <;> omega
  rw [hlo, Int.toNat_natCast]
  by_cases hh : B - b.Pause.Low + 1 ≤ u + (lo : Int)
  · have h0 : nA b (B - u) = 0 := by unfold nA; rw [hlo]; omega
    rw [h0]
    exact .inl ⟨fun x y => cand_none o hk hlo2 hh x y, rfl⟩
  · obtain ⟨N, hN⟩ : ∃ N, nA b (B - u) = N := ⟨_, rfl⟩
    have hN' := hN
    unfold nA at hN'
    rw [hlo] at hN'
    rw [hN]
    have hr := range_all (lo' := lo) (q := k) (fun v hv => row_best o h (Nat.le_refl k) hv) hn 1 (by decide) N (by omega)
    rw [show u + (lo : Int) + (N : Int) = B - b.Pause.Low + 1 by omega] at hr
    exact isBest_congr (fun x y => cand_range o hk hlo2 x y) hr
/-- An end is written. -/
theorem tab_put (hi : i < b.Pieces.length) (hf : fitsB (pieceN b i) t k = true) (h0 : 0 ≤ A) (hA : u ≤ A) (hm : A % discOf b (pieceN b i) = (pieceN b i).Begin) {T : Int} (hT : discOf b (pieceN b i) = T) (hT1 : 1 ≤ T)
    (ht : TabOk b t u p k i A tab) {c : End} (hc : IsBest (CandS b t u k i A) c) (hp : 1 ≤ c.pieces) {e : End} (he : e = betterE (tab (k + (pieceN b i).Words.length) (A + (pieceN b i).Long)) c) :
    TabOk b t u p k i (A + T) (fun q v => if q = k + (pieceN b i).Words.length ∧ v = A + (pieceN b i).Long then e else tab q v) := by
  intro q v hv
  have hs := proc_step (q := q) (t := v) hi hf h0 hA hm hT hT1
  by_cases hq : q = k + (pieceN b i).Words.length ∧ v = A + (pieceN b i).Long
  · simp only
    rw [if_pos hq, he, ← hq.1, ← hq.2]
    refine isBest_congr (fun n x => ?_) (better_ok (ht q v hv) hc hp)
    rw [hs]
    exact ⟨fun h => h.imp id fun h => ⟨hq.1, hq.2, h⟩, fun h => h.imp id fun h => h.2.2⟩
  · simp only
    rw [if_neg hq]
    refine isBest_congr (fun n x => ?_) (ht q v hv)
    rw [hs]
    exact ⟨.inl, fun h => h.elim id fun h => absurd ⟨h.1, h.2.1⟩ hq⟩
/-- Nothing is written. -/
theorem tab_keep (hi : i < b.Pieces.length) (hf : fitsB (pieceN b i) t k = true) (h0 : 0 ≤ A) (hA : u ≤ A) (hm : A % discOf b (pieceN b i) = (pieceN b i).Begin) {T : Int} (hT : discOf b (pieceN b i) = T) (hT1 : 1 ≤ T)
    (ht : TabOk b t u p k i A tab) {c : End} (hc : IsBest (CandS b t u k i A) c) (hp : ¬ 1 ≤ c.pieces) : TabOk b t u p k i (A + T) tab := by
  intro q v hv
  have hs := proc_step (q := q) (t := v) hi hf h0 hA hm hT hT1
  have hno : ∀ n x, ¬ CandS b t u k i A n x := by
    rcases isBest_pos hc with ⟨_, h⟩ | ⟨h, _⟩
    · exact h
    · exact absurd h hp
  refine isBest_congr (fun n x => ?_) (ht q v hv)
  rw [hs]
  exact ⟨.inl, fun h => h.elim id fun h => absurd h.2.2 (hno n x)⟩
theorem tab_skip (hf : ¬ fitsB (pieceN b i) t k = true) (ht : TabOk b t u p k i u tab) : TabOk b t u p k (i + 1) u tab := fun q v hv => isBest_congr (fun n x => proc_skip hf q v n x) (ht q v hv)
theorem tab_first {B : Int} (hA : ∀ k, u ≤ k → k % discOf b (pieceN b i) = (pieceN b i).Begin → B ≤ k) (hA0 : u ≤ B) (ht : TabOk b t u p k i u tab) : TabOk b t u p k i B tab := fun q v hv => isBest_congr (fun n x => proc_first hA hA0 q v n x) (ht q v hv)
theorem tab_last (hA : p < A + (pieceN b i).Long) (hA0 : u ≤ A) (ht : TabOk b t u p k i A tab) : TabOk b t u p k (i + 1) u tab := fun q v hv => isBest_congr (fun n x => proc_last hA hA0 q hv n x) (ht q v hv)
theorem tab_next (ht : TabOk b t u p k b.Pieces.length u tab) : TabOk b t u p (k + 1) 0 u tab := fun q v hv => isBest_congr (fun n x => proc_next q v n x) (ht q v hv)
theorem tab_start : TabOk b t u p 0 0 u fun _ _ => ⟨0, 0⟩ := fun q v _ => .inl ⟨fun n a => proc_start, rfl⟩
end
end Go.RS.DC

/- Walks: the reference 05 (7): the table of what can end where, and when: its filling. -/
namespace Go.RS.DC
open Go Go.RS
open Go.RS.Enc (enc dec)
variable {E : VEnv}
theorem fzR {M : VM} {t n : Nat} {row : List End} (h : M[t]? = some (.vec (encL row))) (hn : row.length = n) (h1 : 1 ≤ n) (h2 : n ≤ 10000) : fzSl M t (n * 2) 0 n n 2 = lsR n row := by
  subst hn
  have hl : (encL row).length = row.length * 2 := by rw [encL_length]; rfl
  have hc : row.length ≤ openCap := Nat.le_trans h2 (by decide)
  have ht : (encL row).take (row.length * 2) = encL row := by rw [← hl, List.take_length]
  unfold fzSl lsR
  rw [if_neg (by omega), h]
  simp only
  rw [if_pos ⟨hl, by omega, .inl hc⟩, List.drop_zero, ht]
  simp
theorem rows_le {n : Nat} {R : Nat → List End} {g : Nat → List End} : ∀ l : List Nat, (∀ q ∈ l, R q = g q ∧ (g q).length = n) → PV.leL (l.map fun q => lsR n (R q)) (encL (l.map g))
  | [], _ => by simp [PV.leL]
  | q :: l, h => by
    obtain ⟨h1, h2⟩ := h q (by simp)
    have ih := rows_le l fun q hq => h q (by simp [hq])
    have e : encL ((q :: l).map g) = enc (g q) :: encL (l.map g) := rfl
    rw [e, List.map_cons]
    refine ⟨?_, ih⟩
    rw [h1]
    unfold lsR
    simp [enc_list, h2]
theorem cut_pre2 {f : VFr} {l : List (Nat × PV)} {A : VM} {c d : VObj} {k n : Nat} (hn : (A ++ [c]).length = n) (hk : k ≤ n) (hu : ∀ o ∈ A ++ [c], o.und n) (hs : ∀ p ∈ l, (f p.1).le p.2 ∧ p.2.und n = true) : Cut k f (A ++ [c, d]) l (A ++ [c]) := by
  have e : A ++ [c, d] = (A ++ [c]) ++ [d] := by simp
  rw [e]
  exact cut_pre' hn hk hu hs
theorem cut_self2 {f : VFr} {l : List (Nat × PV)} {A : VM} {c : VObj} {k n : Nat} (hn : (A ++ [c]).length = n) (hk : k ≤ n) (hu : ∀ o ∈ A ++ [c], o.und n) (hs : ∀ p ∈ l, (f p.1).le p.2 ∧ p.2.und n = true) : Cut k f (A ++ [c]) l (A ++ [c]) := by
  subst hn
  exact cut_all hk hu hs
theorem celF {n L : Nat} {R : Nat → List End} : PV.isFL (cel n L L L R) = true := by
  have h : ∀ l : List PV, (∀ v ∈ l, v.isF = true) → PV.isFL l = true := by
    intro l
    induction l with
    | nil => intro _; rfl
    | cons v l ih =>
      intro h
      have h1 := h v (by simp)
      have h2 := ih fun w hw => h w (by simp [hw])
      unfold PV.isFL
      rw [h1, h2]; rfl
  refine h _ fun v hv => ?_
  unfold cel at hv
  obtain ⟨q, hq, rfl⟩ := List.mem_map.1 hv
  rw [List.mem_range] at hq
  rw [if_pos hq]; rfl
noncomputable def endsT (b : Book) (t : List Int) (f p : Int) : List (List End) := (List.range (t.length + 1)).map fun q => (List.range (p - f + 1).toNat).map fun j => bestE (RowS b t f q (f + (j : Nat)))
noncomputable def endsG (b : Book) (t : List Int) (f p : Int) : Option (List (List End)) := if askedV b t f p = 0 then some (endsT b t f p) else none
set_option maxHeartbeats 3200000 in
set_option maxRecDepth 20000 in
theorem r_ends (hE : E.env.fn = G) : Ok E 95 (s4 endsG) := by
  refine ok4 fun b t u p r hr => ?_
  unfold endsG at hr
  split at hr
  · rename_i ha
    cases hr
    have good := goodV_cons (r_fits hE) (goodV_cons (w_Rest hE) (goodV_cons (r_after hE) (goodV_cons (r_better hE) goodV_nil)))
    have a := asked_ok ha
    have o := a.o
    have ho : okB b = true := by
      unfold askedV at ha
      cases h : okB b
      · rw [h] at ha; simp at ha
      · rfl
    have p2 := o.p2
    have t8 := a.t8
    have f0 := a.f0
    have p1 := a.p1
    have fp := a.fp
    have fd := a.w
    obtain ⟨n, hn⟩ : ∃ n, (p - u + 1).toNat = n := ⟨_, rfl⟩
    have hn1 : 1 ≤ n := by omega
    have hn2 : n ≤ 6101 := by omega
    obtain ⟨L, hL⟩ : ∃ L, t.length + 1 = L := ⟨_, rfl⟩
    have w1 : IntKind.i64.wrap ((t.length : Int) + 1) = (L : Int) := by rw [wrap64 (by omega) (by omega)]; omega
    have hL1 : (L : Int) ≤ 9 := by omega
    obtain ⟨T, hT⟩ : ∃ T, endsT b t u p = T := ⟨_, rfl⟩
    rw [hT]
    have L24 : L * 24 ≤ 1099511627776 := by omega
    have L40 : L ≤ 1099511627776 := by omega
    have L0 : ¬ L = 0 := by omega
    have Lp : 0 < L := by omega
    have n16 : n * 16 ≤ 1099511627776 := by omega
    have n40 : n ≤ 1099511627776 := by omega
    have n0 : ¬ n = 0 := by omega
    have wn : IntKind.i64.wrap (p - u) = p - u := wrap64 (by omega) (by omega)
    have wn1 : IntKind.i64.wrap (p - u + 1) = (n : Int) := by rw [wrap64 (by omega) (by omega)]; omega
    obtain ⟨R0, hR0⟩ : ∃ R0 : Nat → List End, ∀ q, R0 q = List.replicate n ⟨0, 0⟩ := ⟨fun _ => List.replicate n ⟨0, 0⟩, fun _ => rfl⟩
    obtain ⟨M0, hM0⟩ : ∃ M0 : Nat → VM, ∀ k, M0 k = memT b n L 0 k R0 := ⟨_, fun _ => rfl⟩
    have e0 : M0 0 = [bcl b, .cells (List.replicate L .nilS)] := by rw [hM0]; unfold memT objs; rw [celInit]; rfl
    refine VP.func (A := F95) (by rw [hE]; rfl) (by simp [F95]) ?_; unfold F95
    refine VW.seq (VW.run good [] ?_); simp (implicitDefEqProofs := false) [enc_list]
    refine VW.seq_cut [(1, enc t), (2, .int .i64 u), (3, .int .i64 p), (4, .ptr 0 6 0), (9, .sl 1 L 0 L L 1)] (M0 0) (VW.run good [21] ?_) ?_
    · simp (implicitDefEqProofs := false) [enc_list, w1, L24, L40, L0, Nat.mod_one]
      rw [e0]
      exact ⟨2, [], by simp [enc_list,  List.map_const'], by simp, by simp, by simp (implicitDefEqProofs := false) [enc_list,  List.map_const'], by simp (implicitDefEqProofs := false) [enc_list,  List.map_const']⟩
    refine VW.seq (VW.run good [] ?_); simp (implicitDefEqProofs := false) [enc_list]
    refine VW.loop_to 0 [(1, enc t), (2, .int .i64 u), (3, .int .i64 p), (4, .ptr 0 6 0), (9, .sl 1 L 0 L L 1)] (M0 L) (True) ?_ (fun hp f m hc => ?_)
    · obtain ⟨Inv, hI⟩ : ∃ Inv : Nat → List (Nat × PV) → VM → Prop, ∀ k g m, Inv k g m ↔ (g = [(1, enc t), (2, .int .i64 u), (3, .int .i64 p), (4, .ptr 0 6 0), (9, .sl 1 L 0 L L 1), (10, .int .i64 k)] ∧ m = M0 k) := ⟨_, fun _ _ _ => Iff.rfl⟩
      refine VW.loop_cut Inv L ?_ ?_ ?_
      · have hl : (M0 0).length = 2 := by rw [e0]; rfl
        have hu : ∀ o ∈ M0 0, o.und 2 := by rw [hM0]; exact mem_und (by omega)
        refine ⟨_, _, (hI _ _ _).2 ⟨rfl, rfl⟩, cut_all (by omega) (by rw [hl]; exact hu) ?_⟩
        rw [hl]
        simp (implicitDefEqProofs := false) [enc_list]
      · intro k g m hk hi
        obtain ⟨rfl, rfl⟩ := (hI _ _ _).1 hi
        have hl : (M0 k).length = k + 2 := by rw [hM0]; exact memLen
        have hl1 : (M0 (k + 1)).length = k + 3 := by rw [hM0]; exact memLen
        have hu : ∀ o ∈ M0 (k + 1), o.und (k + 3) := by rw [hM0]; exact mem_und (by omega)
        have w3 : IntKind.i64.wrap ((k : Int) + 1) = ((k + 1 : Nat) : Int) := by rw [wrap64 (by omega) (by omega)]; omega
        have hkt : (k : Int) ≤ t.length := by omega
        have hkL : (k : Int) < (L : Int) := by omega
        have hk2 : k + 1 ≤ L := by omega
        have g1 : ∀ h, (M0 k)[1]'h = VObj.cells (cel n L 0 k R0) := fun h => Option.some.inj ((List.getElem?_eq_getElem h).symm.trans (by rw [hM0]; rfl))
        have cl : (cel n L 0 k R0).length = L := celLen
        have hset : (M0 k).set 1 (.cells (spliceV (cel n L 0 k R0) k [PV.sl (k + 2) (n * 2) 0 n n 2])) ++ [VObj.vec (encL (List.replicate n (⟨0, 0⟩ : End)))] = M0 (k + 1) := by
          rw [hM0, hM0, show (PV.sl (k + 2) (n * 2) 0 n n 2) = slR n k by unfold slR; rw [Nat.add_comm], ← memGrow hk _ (hR0 k), List.set_append_left _ _ (by rw [memLen]; omega)]
        refine VW.run good [] ?_; simp (implicitDefEqProofs := false) [enc_list, hkt, hkL, hk, hk2, wn, wn1, n16, n40, n0, Lp, zeroRow, hl, g1, cl, hset, w3]
        refine ⟨_, _, (hI _ _ _).2 ⟨rfl, rfl⟩, cut_all (by omega) (by rw [hl1]; exact hu) ?_⟩
        rw [hl1]
        simp (implicitDefEqProofs := false) [enc_list]
      · intro g m hi
        obtain ⟨rfl, rfl⟩ := (hI _ _ _).1 hi
        have hl : (M0 L).length = L + 2 := by rw [hM0]; exact memLen
        have hu : ∀ o ∈ M0 L, o.und (L + 2) := by rw [hM0]; exact mem_und (by omega)
        have hkt : ¬ (L : Int) ≤ t.length := by omega
        refine VW.run good [] ?_; simp (implicitDefEqProofs := false) [enc_list, hkt]
        refine cut_all (by omega) (by rw [hl]; exact hu) ?_
        rw [hl]
        simp (implicitDefEqProofs := false) [enc_list]
    · simp (implicitDefEqProofs := false) [enc_list, AExit.leave]
      refine .ofCut hc ?_
      have hnp : (n : Int) = p - u + 1 := by omega
      obtain ⟨X, hX⟩ : ∃ X : Nat → (Nat → Int → End) → VM, ∀ k tab, X k tab = memT b n L k L (rowT u n tab) := ⟨_, fun _ _ => rfl⟩
      have hR00 : R0 = rowT u n (fun _ _ => ⟨0, 0⟩) := by
        funext q
        rw [hR0]
        refine List.ext_getElem? fun j => ?_
        by_cases hj : j < n
        · rw [rowTget hj, List.getElem?_replicate, if_pos hj]
        · rw [List.getElem?_eq_none (by simp; omega), List.getElem?_eq_none (by rw [rowTlen]; omega)]
      have hMX : M0 L = X 0 (fun _ _ => ⟨0, 0⟩) := by rw [hM0, hX, hR00]
      have xl : ∀ k tab, (X k tab).length = L + 2 := fun k tab => by rw [hX]; exact memLen
      have xu : ∀ k tab j, L + 2 ≤ j → ∀ o ∈ X k tab, o.und j := fun k tab j hj => by rw [hX]; exact mem_und hj
      have x0 : ∀ k tab h, (X k tab)[0]'h = bcl b := fun k tab h => Option.some.inj ((List.getElem?_eq_getElem h).symm.trans (by rw [hX]; rfl))
      have x1 : ∀ k tab h, (X k tab)[1]'h = VObj.cells (cel n L k L (rowT u n tab)) := fun k tab h => Option.some.inj ((List.getElem?_eq_getElem h).symm.trans (by rw [hX]; rfl))
      have L2 : 2 ≤ L := by have := a.t1; omega
      rw [hMX]
      refine VW.seq (VW.run good [] ?_); simp (implicitDefEqProofs := false) [enc_list]
      refine VW.loop_toE 2 (fun (tab : Nat → Int → End) => [(9, .sl 1 L 0 L L 1)]) (fun (tab : Nat → Int → End) => X t.length tab) (fun (tab : Nat → Int → End) => TabOk b t u p t.length 0 u tab) ?_ (fun tab hp f m hc => ?_)
      · obtain ⟨Inv, hI⟩ : ∃ Inv : Nat → List (Nat × PV) → VM → Prop, ∀ k g m, Inv k g m ↔ (∃ tab, g = [(1, enc t), (2, .int .i64 u), (3, .int .i64 p), (4, .ptr 0 6 0), (9, .sl 1 L 0 L L 1), (11, .int .i64 k)] ∧ m = X k tab ∧ TabOk b t u p k 0 u tab) := ⟨_, fun _ _ _ => Iff.rfl⟩
        refine VW.loop_cut Inv t.length ?_ ?_ ?_
        · refine ⟨_, _, (hI _ _ _).2 ⟨_, rfl, rfl, tab_start⟩, cut_all (by omega) (by rw [xl]; exact xu _ _ _ (Nat.le_refl _)) ?_⟩
          rw [xl]
          simp (implicitDefEqProofs := false) [enc_list]
        · intro k g m hk hi
          obtain ⟨tab, rfl, rfl, htab⟩ := (hI _ _ _).1 hi
          refine VW.freezeM (t := 2 + k) (len := n * 2) (o := 0) (q := n) (cap := n) (e := 2) (cs := cel n L k L (rowT u n tab)) 1 k (by rw [hX]; rfl) (celSl (by omega) (Nat.le_refl _) (by omega)) (by omega) ?_
          rw [fzR (row := rowT u n tab k) (by rw [hX]; exact memGet (Nat.le_refl _) (by omega)) rowTlen hn1 (by omega), hX, memFreeze (by omega) (Nat.le_refl _), ← hX]
          have v1 : IntKind.i64.wrap ((k : Int) + 1) = k + 1 := wrap64 (by omega) (by omega)
          have hk' : (k : Int) < t.length := by omega
          refine VW.seq (VW.run good [] ?_); simp (implicitDefEqProofs := false) [enc_list, hk, hk']
          refine VW.seq (VW.block ?_)
          refine VW.seq (VW.run good [] ?_); simp (implicitDefEqProofs := false) [enc_list]
          refine VW.block ?_
          refine VW.loop_toE 4 (fun (tab : Nat → Int → End) => [(1, enc t), (2, .int .i64 u), (3, .int .i64 p), (4, .ptr 0 6 0), (9, .sl 1 L 0 L L 1), (11, .int .i64 k)]) (fun (tab : Nat → Int → End) => X (k + 1) tab) (fun (tab : Nat → Int → End) => TabOk b t u p k b.Pieces.length u tab) ?_ (fun tab hp f m hc => ?_)
          · obtain ⟨Inv4, hI4⟩ : ∃ Inv : Nat → List (Nat × PV) → VM → Prop, ∀ i g m, Inv i g m ↔ (∃ tab, g = [(1, enc t), (2, .int .i64 u), (3, .int .i64 p), (4, .ptr 0 6 0), (9, .sl 1 L 0 L L 1), (11, .int .i64 k), (12, .int .i64 (i : Nat))] ∧ m = X (k + 1) tab ∧ TabOk b t u p k i u tab) := ⟨_, fun _ _ _ => Iff.rfl⟩
            refine VW.loop_cut Inv4 b.Pieces.length ?_ ?_ ?_
            · refine ⟨_, _, (hI4 _ _ _).2 ⟨_, rfl, rfl, htab⟩, cut_all (by omega) (by rw [xl]; exact xu _ _ _ (Nat.le_refl _)) ?_⟩
              rw [xl]
              simp (implicitDefEqProofs := false) [enc_list]
            · intro i g m hi hv
              obtain ⟨tab, rfl, rfl, htab⟩ := (hI4 _ _ _).1 hv
              have v2 : IntKind.i64.wrap ((i : Int) + 1) = i + 1 := wrap64 (by omega) (by omega)
              have hi' : (i : Int) < b.Pieces.length := by omega
              have hg := get_Piece b.Pieces i hi
              have hpn : pieceN b i = b.Pieces[i] := by unfold pieceN; rw [List.getD_eq_getElem?_getD, List.getElem?_eq_getElem hi]; rfl
              have po := pieceN_ok o hi
              have hfi : fitsG b (i : Int) t (k : Int) = some (fitsB (pieceN b i) t k) := by
                unfold fitsG
                rw [if_pos ⟨ho, by omega, by omega, by omega, by omega, by omega⟩, pieceAt_N, Int.toNat_natCast]
              have x0' : ∀ h, (X (k + 1) tab)[0]'h = bcl b := x0 _ _
              have xl1 : (X (k + 1) tab).length = L + 2 := xl _ _
              rw [← hpn] at hg
              cases hF : fitsB (pieceN b i) t k
              · rw [hF] at hfi
                have hsk := tab_skip (by rw [hF]; simp) htab
                refine VW.run good [] ?_; simp (implicitDefEqProofs := false) [enc_list, hi, hi', hg, hfi, x0', xl1, spliceV]
                refine VW.run good [] ?_; simp (implicitDefEqProofs := false) [enc_list, v2]
                refine ⟨_, _, (hI4 _ _ _).2 ⟨_, rfl, rfl, hsk⟩, cut_pre' (n := L + 2) (xl _ _) (by omega) (xu _ _ _ (Nat.le_refl _)) ?_⟩
                simp (implicitDefEqProofs := false) [enc_list]
              · rw [hF] at hfi
                have hfle := fits_le hF
                have put := fun (A : Int) (tab : Nat → Int → End) (h0 : 0 ≤ A) (hA : u ≤ A) hm (T : Int) hT hT1 ht (c : End) hc hp (e : End) he => tab_put (b := b) (t := t) (u := u) (p := p) (A := A) (k := k) (i := i) (tab := tab) hi hF h0 hA hm (T := T) hT hT1 ht (c := c) hc hp (e := e) he
                have keep := fun (A : Int) (tab : Nat → Int → End) (h0 : 0 ≤ A) (hA : u ≤ A) hm (T : Int) hT hT1 ht (c : End) hc hp => tab_keep (b := b) (t := t) (u := u) (p := p) (A := A) (k := k) (i := i) (tab := tab) hi hF h0 hA hm (T := T) hT hT1 ht (c := c) hc hp
                have last := fun (A : Int) (tab : Nat → Int → End) h1 h2 h3 => tab_last (b := b) (t := t) (u := u) (p := p) (A := A) (k := k) (i := i) (tab := tab) h1 h2 h3
                have first := fun (B : Int) h1 h2 => tab_first (b := b) (t := t) (u := u) (p := p) (k := k) (i := i) (tab := tab) (B := B) h1 h2 htab
                generalize pieceN b i = x at *
                have pw1 := po.w1
                have pw2 := po.w2
                have l1 := po.l1
                have l2 := po.l2
                have t2 := po.t2
                have t1 := po.t1
                have b0 := po.b0
                have b1 := po.b1
                obtain ⟨dd, hd⟩ : ∃ d : Nat, x.Disc = d := ⟨x.Disc.toNat, by have := po.d0; omega⟩
                have hd1 : dd < b.Discs.length := by have := po.d1; omega
                have hd1' : (dd : Int) < b.Discs.length := by omega
                have hgd := get_Int b.Discs dd hd1
                have hTd : discOf b x = b.Discs[dd] := by unfold discOf; rw [hd, List.getD_eq_getElem?_getD, Int.toNat_natCast, List.getElem?_eq_getElem hd1]; rfl
                rw [hTd] at l2 t2 t1 b1 put keep first
                generalize b.Discs[dd] = DT at *
                obtain ⟨z, hz⟩ : ∃ z, k + x.Words.length = z := ⟨_, rfl⟩
                rw [hz] at hfle put
                have w3 : IntKind.i64.wrap ((k : Int) + x.Words.length) = (z : Int) := by rw [wrap64 (by omega) (by omega)]; omega
                have hzL : z < L := by omega
                have hzL' : (z : Int) < (L : Int) := by omega
                have x1' : ∀ tab h, (X (k + 1) tab)[1]'h = VObj.cells (cel n L (k + 1) L (rowT u n tab)) := x1 _
                have cl : ∀ tab, (cel n L (k + 1) L (rowT u n tab)).length = L := fun _ => celLen
                have cz : ∀ tab, (cel n L (k + 1) L (rowT u n tab))[z]? = some (.sl (2 + z) (n * 2) 0 n n 2) := fun tab => celSl hzL (by omega) hzL
                have cz' : ∀ tab h, (cel n L (k + 1) L (rowT u n tab))[z]'h = .sl (2 + z) (n * 2) 0 n n 2 := fun tab h => Option.some.inj ((List.getElem?_eq_getElem h).symm.trans (cz tab))
                have w4 : IntKind.i64.wrap (x.Begin - u) = x.Begin - u := wrap64 (by omega) (by omega)
                have hDT : DT ≠ 0 := by omega
                obtain ⟨rr, hrr⟩ : ∃ rr, (x.Begin - u) % DT = rr := ⟨_, rfl⟩
                have rr0 : 0 ≤ rr := by rw [← hrr]; exact Int.emod_nonneg _ hDT
                have rr1 : rr < DT := by rw [← hrr]; exact Int.emod_lt_of_pos _ (by omega)
                have hre : restF (x.Begin - u) DT = some rr := by rw [← hrr]; exact if_pos ⟨by omega, by omega⟩
                have w5 : IntKind.i64.wrap (u + rr) = u + rr := wrap64 (by omega) (by omega)
                have hmod : (u + rr) % DT = x.Begin := by
                  rw [← hrr, Int.add_emod_emod, show u + (x.Begin - u) = x.Begin by omega]
                  exact Int.emod_eq_of_lt b0 (by omega)
                have first := first (u + rr) (fun c hc hcm => by
                  have h1 : (c - u) % DT = rr := by
                    rw [← hrr]
                    refine Int.emod_eq_emod_iff_emod_sub_eq_zero.2 ?_
                    rw [show c - u - (x.Begin - u) = c - x.Begin by omega]
                    refine Int.emod_eq_emod_iff_emod_sub_eq_zero.1 ?_
                    rw [hcm]
                    exact (Int.emod_eq_of_lt b0 (by omega)).symm
                  have h2 := Int.emod_add_mul_ediv (c - u) DT
                  have h3 := Int.mul_nonneg (show 0 ≤ DT by omega) (Int.ediv_nonneg (show 0 ≤ c - u by omega) (show 0 ≤ DT by omega))
                  omega) (by omega)
                refine VW.seq (VW.run good [] ?_); simp (implicitDefEqProofs := false) [enc_list, hi, hi', x0', xl1]
                refine VW.seq (VW.block ?_)
                refine VW.seq (VW.run good [] ?_); simp (implicitDefEqProofs := false) [enc_list, hi, hi', hg, x0', xl1, spliceV]
                refine VW.seq (VW.run good [] ?_); simp (implicitDefEqProofs := false) [enc_list, hfi, x0', xl1]
                refine VW.seq (VW.run good [] ?_); simp (implicitDefEqProofs := false) [enc_list, x0', xl1, x1', w3, Lp, hzL, hzL', cl, cz, cz']
                refine VW.seq (VW.run good [] ?_); simp (implicitDefEqProofs := false) [enc_list, x0', xl1, hd, hd1, hd1', hgd]
                refine VW.seq (VW.run good [] ?_); simp (implicitDefEqProofs := false) [enc_list, x0', xl1, hre, w4, w5]
                refine VW.block ?_
                obtain ⟨cx, hcx⟩ : ∃ cx : VObj, cx = .cells [enc x.Words, .int .i64 (dd : Int), enc x.Begin, enc x.Long] := ⟨_, rfl⟩
                have cxu : ∀ j, cx.und j := fun j => by rw [hcx]; simp (implicitDefEqProofs := false) [enc_list]
                have xlc : ∀ tab, (X (k + 1) tab ++ [cx]).length = L + 3 := fun tab => by rw [List.length_append, xl]; rfl
                have xuc : ∀ tab j, L + 3 ≤ j → ∀ o ∈ X (k + 1) tab ++ [cx], o.und j := fun tab j hj o ho => by
                  rcases List.mem_append.1 ho with ho | ho
                  · exact xu _ _ _ (by omega) o ho
                  · rw [List.mem_singleton] at ho; subst ho; exact cxu j
                obtain ⟨us1, us2⟩ := upL_spec (turn := DT) (last := p - x.Long) t1 (p - x.Long - (u + rr) + 1).toNat (u + rr) (by omega)
                obtain ⟨N, hN⟩ : ∃ N, (upL DT (p - x.Long) (p - x.Long - (u + rr) + 1).toNat (u + rr)).length = N := ⟨_, rfl⟩
                rw [hN] at us1 us2
                refine VW.loop_toE 6 (fun (tab : Nat → Int → End) => [(1, enc t), (2, .int .i64 u), (3, .int .i64 p), (4, .ptr 0 6 0), (9, .sl 1 L 0 L L 1), (11, .int .i64 k), (12, .int .i64 i)]) (fun (tab : Nat → Int → End) => X (k + 1) tab) (fun (tab : Nat → Int → End) => TabOk b t u p k (i + 1) u tab) ?_ (fun tab hp f m hc => ?_)
                · obtain ⟨Inv6, hI6⟩ : ∃ Inv : Nat → List (Nat × PV) → VM → Prop, ∀ j g m, Inv j g m ↔ (∃ tab A, A = u + rr + (j : Int) * DT ∧ A ≤ p + 500 ∧ u ≤ A ∧ A % DT = x.Begin ∧ g = [(1, enc t), (2, .int .i64 u), (3, .int .i64 p), (4, .ptr 0 6 0), (9, .sl 1 L 0 L L 1), (11, .int .i64 k), (12, .int .i64 (i : Nat)), (13, .ptr (L + 2) 4 0), (14, .sl (2 + z) (n * 2) 0 n n 2), (15, .int .i64 DT), (16, .int .i64 A)] ∧ m = X (k + 1) tab ++ [cx] ∧ TabOk b t u p k i A tab) := ⟨_, fun _ _ _ => Iff.rfl⟩
                  refine VW.loop_cut Inv6 N ?_ ?_ ?_
                  · refine ⟨_, _, (hI6 _ _ _).2 ⟨tab, u + rr, by omega, by omega, by omega, hmod, rfl, rfl, first⟩, ?_⟩
                    rw [hcx]
                    have h1 := xlc tab
                    have h2 := xuc tab _ (Nat.le_refl _)
                    rw [hcx] at h1 h2
                    refine cut_self2 h1 (Nat.zero_le _) h2 ?_
                    simp (implicitDefEqProofs := false) [enc_list]
                    omega
                  · intro j g m hj hv6
                    obtain ⟨tab, A, hA, hA5, hAu, hAm, rfl, rfl, htab⟩ := (hI6 _ _ _).1 hv6
                    have hAl : A + x.Long ≤ p := by have := (us1 j hj).2; omega
                    have v3 : IntKind.i64.wrap (A + x.Long) = A + x.Long := wrap64 (by omega) (by omega)
                    have v5 : IntKind.i64.wrap (A - u) = A - u := wrap64 (by omega) (by omega)
                    have v6 : IntKind.i64.wrap (A + DT) = A + DT := wrap64 (by omega) (by omega)
                    obtain ⟨jj, hjj⟩ : ∃ jj : Nat, A + x.Long - u = jj := ⟨(A + x.Long - u).toNat, by omega⟩
                    have v4 : IntKind.i64.wrap (A + x.Long - u) = (jj : Int) := by rw [wrap64 (by omega) (by omega), hjj]
                    have hjn : jj < n := by omega
                    have hjn' : (jj : Int) < (n : Int) := by omega
                    have hj2 : jj * 2 + 2 ≤ n * 2 := by omega
                    have np : 0 < n := by omega
                    have xl1 : (X (k + 1) tab).length = L + 2 := xl _ _
                    have x0' : ∀ h, (X (k + 1) tab)[0]'h = bcl b := x0 _ _
                    have hc : ∃ c, IsBest (CandS b t u k i A) c ∧ (k = 0 → c = ⟨1, A⟩) ∧ (0 < k → afterG b (rowT u n tab k) (A - u) = some c) := by
                      by_cases hk0 : k = 0
                      · refine ⟨⟨1, A⟩, ?_, fun _ => rfl, fun h => by omega⟩
                        rw [hk0]
                        exact cand_zero A
                      · refine ⟨_, after_best (n := n) o htab hnp (by omega) hAu (by omega), fun h => (hk0 h).elim, fun _ => ?_⟩
                        unfold afterG
                        rw [if_pos ⟨ho, by omega, by rw [rowTlen]; omega, by rw [rowTlen]; omega, row_small o t8 htab hnp (Nat.le_refl _)⟩]
                    obtain ⟨⟨c1, c2⟩, hc, hc0, hc1⟩ := hc
                    rw [hcx]
                    refine VW.seq (VW.run good [] ?_); simp (implicitDefEqProofs := false) [enc_list, xl1, v3, hAl]
                    refine VW.seq (VW.block ?_)
                    refine VW.seq (VW.run good [] ?_); simp (implicitDefEqProofs := false) [enc_list, xl1, spliceV]
                    refine VW.seq_cut [(1, enc t), (2, .int .i64 u), (3, .int .i64 p), (4, .ptr 0 6 0), (9, .sl 1 L 0 L L 1), (11, .int .i64 k), (12, .int .i64 (i : Nat)), (13, .ptr (L + 2) 4 0), (14, .sl (2 + z) (n * 2) 0 n n 2), (15, .int .i64 DT), (16, .int .i64 A), (17, .ptr (L + 2 + 1) 2 0)] (X (k + 1) tab ++ [.cells [enc x.Words, .int .i64 (dd : Int), enc x.Begin, enc x.Long], .cells [.int .i64 c1, .int .i64 c2]]) (VW.run good [] ?_) ?_
                    · have hcut : ∀ (fr : VFr) (l : List (Nat × PV)), (∀ p ∈ l, (fr p.1).le p.2 ∧ p.2.und (L + 4) = true) → Cut 0 fr (X (k + 1) tab ++ [.cells [enc x.Words, .int .i64 (dd : Int), enc x.Begin, enc x.Long], .cells [.int .i64 c1, .int .i64 c2]]) l (X (k + 1) tab ++ [.cells [enc x.Words, .int .i64 (dd : Int), enc x.Begin, enc x.Long], .cells [.int .i64 c1, .int .i64 c2]]) := fun fr l hs => by
                        have h4 : (X (k + 1) tab ++ [VObj.cells [enc x.Words, .int .i64 (dd : Int), enc x.Begin, enc x.Long], .cells [.int .i64 c1, .int .i64 c2]]).length = L + 4 := by rw [List.length_append, xl]; rfl
                        refine cut_all (Nat.zero_le _) ?_ (by rw [h4]; exact hs)
                        rw [h4]
                        intro o ho
                        rcases List.mem_append.1 ho with ho | ho
                        · exact xu _ _ _ (by omega) o ho
                        · simp only [List.mem_cons, List.not_mem_nil, or_false] at ho
                          rcases ho with rfl | rfl <;> simp (implicitDefEqProofs := false) [enc_list]
                      by_cases hk0 : k = 0
                      · cases hc0 hk0
                        have hkz : ¬ 0 < k := by omega
                        have hkz' : ¬ (0 : Int) < (k : Int) := by omega
                        simp (implicitDefEqProofs := false) [enc_list, hkz, hkz']
                        refine hcut _ _ ?_
                        simp (implicitDefEqProofs := false) [enc_list]
                        omega
                      · have hkz : 0 < k := by omega
                        have hkz' : (0 : Int) < (k : Int) := by omega
                        have haf := hc1 hkz
                        have ck : (cel n L (k + 1) L (rowT u n tab))[k]? = some (.lst true n 2 (encL (rowT u n tab k))) := celLs (by omega) (by omega)
                        have ck' : ∀ h, (cel n L (k + 1) L (rowT u n tab))[k]'h = .lst true n 2 (encL (rowT u n tab k)) := fun h => Option.some.inj ((List.getElem?_eq_getElem h).symm.trans ck)
                        have hdec : (dec (PV.lst true n 2 (encL (rowT u n tab k))) : Option (List End)) = some (rowT u n tab k) := decl_End _ _ _ rowTlen.symm
                        have hkL : k < L := by omega
                        have hkL' : (k : Int) < (L : Int) := by omega
                        simp (implicitDefEqProofs := false) [enc_list, hkz, hkz', x0', xl1, x1', cl, ck, ck', hkL, hkL', Lp, v5, hdec, haf, spliceV]
                        refine hcut _ _ ?_
                        simp (implicitDefEqProofs := false) [enc_list]
                        omega
                    by_cases hcp : 0 < c1
                    · have hg2 := get_End (rowT u n tab z) jj (by rw [rowTlen]; exact hjn)
                      have he0 : (rowT u n tab z)[jj]'(by rw [rowTlen]; exact hjn) = tab z (A + x.Long) := by
                        have h1 := rowTget (u := u) (n := n) (tab := tab) (q := z) hjn
                        rw [List.getElem?_eq_getElem (by rw [rowTlen]; exact hjn)] at h1
                        rw [Option.some.inj h1, show u + (jj : Int) = A + x.Long by omega]
                      rw [he0] at hg2
                      obtain ⟨⟨n1, n2⟩, hbt⟩ : ∃ e, betterE (tab z (A + x.Long)) ⟨c1, c2⟩ = e := ⟨_, rfl⟩
                      have hpt := put A tab (by omega) hAu hAm DT rfl t1 htab ⟨c1, c2⟩ hc (by simp only; omega) ⟨n1, n2⟩ hbt.symm
                      have hset : (X (k + 1) tab).set (2 + z) (.vec (spliceV (encL (rowT u n tab z)) (jj * 2) [PV.int .i64 n1, PV.int .i64 n2])) = X (k + 1) (fun q v => if q = z ∧ v = A + x.Long then ⟨n1, n2⟩ else tab q v) := by
                        rw [encL_set _ _ ⟨n1, n2⟩ (by rw [rowTlen]; exact hjn), hX, hX, memSet (by omega) hzL, rowTset (v := A + x.Long) hjn (by omega)]
                      have xr : ∀ h, (X (k + 1) tab)[2 + z]'h = VObj.vec (encL (rowT u n tab z)) := fun h => Option.some.inj ((List.getElem?_eq_getElem h).symm.trans (by rw [hX]; exact memGet (by omega) hzL))
                      have rl : (rowT u n tab z).length = n := rowTlen
                      have hz2 : 2 + z < (X (k + 1) tab).length := by rw [xl]; omega
                      have xq : ∀ l : VM, (X (k + 1) tab ++ l)[2 + z]? = some (VObj.vec (encL (rowT u n tab z))) := fun l => by rw [List.getElem?_append_left hz2, List.getElem?_eq_getElem hz2, xr]
                      have hset2 : ∀ l : VM, (X (k + 1) tab ++ l).set (2 + z) (.vec (spliceV (encL (rowT u n tab z)) (jj * 2) [PV.int .i64 n1, PV.int .i64 n2])) = X (k + 1) (fun q v => if q = z ∧ v = A + x.Long then ⟨n1, n2⟩ else tab q v) ++ l := fun l => by rw [List.set_append_left _ _ hz2, hset]
                      obtain ⟨e1, e2⟩ := tab z (A + x.Long)
                      refine VW.run good [] ?_; simp (implicitDefEqProofs := false) [enc_list, xl1, hcp, v3, v4, hjn, hjn', hj2, np, xq, rl, hg2, hbt, hset2]
                      simp (implicitDefEqProofs := false) [enc_list, AExit.leave]
                      obtain ⟨tab2, htab2⟩ : ∃ tab2 : Nat → Int → End, (fun q v => if q = z ∧ v = A + x.Long then ⟨n1, n2⟩ else tab q v) = tab2 := ⟨_, rfl⟩
                      rw [htab2] at hpt ⊢
                      have xl2 : (X (k + 1) tab2).length = L + 2 := xl _ _
                      refine VW.run good [] ?_; simp (implicitDefEqProofs := false) [enc_list, v6, xl2]
                      refine ⟨_, _, (hI6 _ _ _).2 ⟨tab2, A + DT, by rw [hA]; push_cast; rw [Int.add_mul]; omega, by omega, by omega, by rw [Int.add_emod_right]; exact hAm, rfl, rfl, hpt⟩, ?_⟩
                      rw [hcx]
                      have h1 := xlc tab2
                      have h2 := xuc tab2 _ (Nat.le_refl _)
                      rw [hcx] at h1 h2
                      refine cut_pre2 h1 (Nat.zero_le _) h2 ?_
                      simp (implicitDefEqProofs := false) [enc_list]
                      omega
                    · have hkp := keep A tab (by omega) hAu hAm DT rfl t1 htab ⟨c1, c2⟩ hc (by simp only; omega)
                      refine VW.run good [] ?_; simp (implicitDefEqProofs := false) [enc_list, xl1, hcp]
                      simp (implicitDefEqProofs := false) [enc_list, AExit.leave]
                      refine VW.run good [] ?_; simp (implicitDefEqProofs := false) [enc_list, v6]
                      refine ⟨_, _, (hI6 _ _ _).2 ⟨tab, A + DT, by rw [hA]; push_cast; rw [Int.add_mul]; omega, by omega, by omega, by rw [Int.add_emod_right]; exact hAm, rfl, rfl, hkp⟩, ?_⟩
                      rw [hcx]
                      have h1 := xlc tab
                      have h2 := xuc tab _ (Nat.le_refl _)
                      rw [hcx] at h1 h2
                      refine cut_pre2 h1 (Nat.zero_le _) h2 ?_
                      simp (implicitDefEqProofs := false) [enc_list]
                      omega
                  · intro g m hv6
                    obtain ⟨tab, A, hA, hA5, hAu, hAm, rfl, rfl, htab⟩ := (hI6 _ _ _).1 hv6
                    have hAl : ¬ A + x.Long ≤ p := by omega
                    have htab := last A tab (by omega) hAu htab
                    have v3 : IntKind.i64.wrap (A + x.Long) = A + x.Long := wrap64 (by omega) (by omega)
                    have xl1 : (X (k + 1) tab).length = L + 2 := xl _ _
                    rw [hcx]
                    refine VW.run good [] ?_; simp (implicitDefEqProofs := false) [enc_list, xl1, v3, hAl]
                    refine ⟨tab, htab, cut_pre' (n := L + 2) (xl _ _) (Nat.zero_le _) (xu _ _ _ (Nat.le_refl _)) ?_⟩
                    simp (implicitDefEqProofs := false) [enc_list]
                · simp (implicitDefEqProofs := false) [enc_list, AExit.leave]
                  refine .ofCut hc ?_
                  refine VW.run good [] ?_; simp (implicitDefEqProofs := false) [enc_list, v2]
                  refine ⟨_, _, (hI4 _ _ _).2 ⟨_, rfl, rfl, hp⟩, cut_all (by omega) (by rw [xl]; exact xu _ _ _ (Nat.le_refl _)) ?_⟩
                  rw [xl]
                  simp (implicitDefEqProofs := false) [enc_list]
            · intro g m hv
              obtain ⟨tab, rfl, rfl, htab⟩ := (hI4 _ _ _).1 hv
              have x0' : ∀ h, (X (k + 1) tab)[0]'h = bcl b := x0 _ _
              have xl1 : (X (k + 1) tab).length = L + 2 := xl _ _
              refine VW.run good [] ?_; simp (implicitDefEqProofs := false) [enc_list, x0', xl1]
              refine ⟨tab, htab, cut_all (by omega) (by rw [xl]; exact xu _ _ _ (Nat.le_refl _)) ?_⟩
              rw [xl]
              simp (implicitDefEqProofs := false) [enc_list]
          · simp (implicitDefEqProofs := false) [enc_list, AExit.leave]
            refine .ofCut hc ?_
            refine VW.run good [] ?_; simp (implicitDefEqProofs := false) [enc_list, v1]
            refine ⟨_, _, (hI _ _ _).2 ⟨_, rfl, rfl, tab_next hp⟩, cut_all (by omega) (by rw [xl]; exact xu _ _ _ (Nat.le_refl _)) ?_⟩
            rw [xl]
            simp (implicitDefEqProofs := false) [enc_list]
        · intro g m hi
          obtain ⟨tab, rfl, rfl, htab⟩ := (hI _ _ _).1 hi
          refine VW.run good [] ?_; simp (implicitDefEqProofs := false) [enc_list]
          refine ⟨tab, htab, cut_all (by omega) (by rw [xl]; exact xu _ _ _ (Nat.le_refl _)) ?_⟩
          rw [xl]
          simp (implicitDefEqProofs := false) [enc_list]
          done
      · simp (implicitDefEqProofs := false) [enc_list, AExit.leave]
        refine .ofCut hc ?_
        refine VW.freezeM (t := 2 + t.length) (len := n * 2) (o := 0) (q := n) (cap := n) (e := 2) (cs := cel n L t.length L (rowT u n tab)) 1 t.length (by rw [hX]; rfl) (celSl (by omega) (Nat.le_refl _) (by omega)) (by omega) ?_
        rw [fzR (row := rowT u n tab t.length) (by rw [hX]; exact memGet (Nat.le_refl _) (by omega)) rowTlen hn1 (by omega), hX, memFreeze (by omega) (Nat.le_refl _), ← hX, hL]
        refine VW.run good [] ?_; simp (implicitDefEqProofs := false) [enc_list]
        have hfz : PV.fz (X L tab) (.sl 1 L 0 L L 1) = .lst true L 1 (cel n L L L (rowT u n tab)) := by
          have e : PV.fz (X L tab) (.sl 1 L 0 L L 1) = fzSl (X L tab) 1 L 0 L L 1 := rfl
          have g1 : (X L tab)[1]? = some (.cells (cel n L L L (rowT u n tab))) := by rw [hX]; rfl
          have hc : L ≤ openCap := Nat.le_trans (show L ≤ 9 by omega) (by decide)
          rw [e]
          unfold fzSl
          rw [if_neg L0, g1]
          simp only
          have ht : (cel n L L L (rowT u n tab)).take L = cel n L L L (rowT u n tab) := by rw [List.take_of_length_le (by rw [celLen]; omega)]
          rw [List.drop_zero, Nat.mul_one, ht, if_pos ⟨celLen, by omega, .inl hc, celF⟩]
          · simp
        rw [show PV.fz (X L tab) (.sl 1 L 0 L L 1) = fzSl (X L tab) 1 L 0 L L 1 from rfl] at hfz
        rw [hfz]
        have hTm : T = (List.range L).map (rowT u n tab) := by
          rw [← hT, ← hL]
          unfold endsT
          refine List.map_congr_left fun q hq => ?_
          rw [List.mem_range] at hq
          rw [hn]
          unfold rowT
          refine List.map_congr_left fun j hj => ?_
          rw [List.mem_range] at hj
          exact bestE_eq (row_best o hp (by omega) (by omega))
        have hce : cel n L L L (rowT u n tab) = (List.range L).map fun q => lsR n (rowT u n tab q) := by
          unfold cel
          refine List.map_congr_left fun q hq => ?_
          rw [List.mem_range] at hq
          rw [if_pos hq]
        rw [hTm, hce]
        have hle := rows_le (n := n) (R := rowT u n tab) (g := rowT u n tab) (List.range L) (fun q _ => ⟨rfl, rowTlen⟩)
        refine ⟨by simp, by simp, .inl rfl, .inr hle⟩
  · cases hr
end Go.RS.DC

/- Walks: the reference 05 (8): the best end of a whole text. -/
namespace Go.RS.DC
open Go Go.RS
open Go.RS.Enc (enc dec)
variable {E : VEnv}
theorem best_min (P : Int → Prop) (lo : Int) (hlo : ∀ n, P n → lo ≤ n) (h : ∃ n, P n) : ∃ m, P m ∧ ∀ n, P n → m ≤ n := by
  have key : ∀ d : Nat, (∃ n, P n ∧ n - lo ≤ d) → ∃ m, P m ∧ ∀ n, P n → m ≤ n := by
    intro d
    induction d with
    | zero =>
      rintro ⟨n, hn, hd⟩
      exact ⟨n, hn, fun k hk => by have := hlo k hk; omega⟩
    | succ d ih =>
      rintro ⟨n, hn, hd⟩
      by_cases hx : ∃ k, P k ∧ k < n
      · obtain ⟨k, hk, hkn⟩ := hx
        exact ih ⟨k, hk, by omega⟩
      · exact ⟨n, hn, fun k hk => by
          by_cases hkn : k < n
          · exact absurd ⟨k, hk, hkn⟩ hx
          · omega⟩
  obtain ⟨n, hn⟩ := h
  exact key (n - lo).toNat ⟨n, hn, by have := hlo n hn; omega⟩
theorem best_ex {S : Int → Int → Prop} {B : Int} (h : ∀ n a, S n a → 1 ≤ n ∧ a ≤ B) : ∃ e, IsBest S e := by
  by_cases hx : ∃ n a, S n a
  · obtain ⟨n0, a0, h0⟩ := hx
    obtain ⟨n, ⟨a, hn⟩, hmin⟩ := best_min (fun n => ∃ a, S n a) 1 (fun n ⟨a, ha⟩ => (h n a ha).1) ⟨n0, a0, h0⟩
    obtain ⟨c, ⟨m, hc⟩, hmax⟩ := best_min (fun c => ∃ n, S n (-c)) (-B) (fun c ⟨n, hn⟩ => by have := (h _ _ hn).2; omega) ⟨-a0, n0, by rw [Int.neg_neg]; exact h0⟩
    exact ⟨⟨n, -c⟩, .inr ⟨(h n a hn).1, ⟨a, hn⟩, fun k x hk => hmin k ⟨x, hk⟩, ⟨m, hc⟩, fun k x hk => by
      have := hmax (-x) ⟨k, by rw [Int.neg_neg]; exact hk⟩
      simp only; omega⟩⟩
  · exact ⟨⟨0, 0⟩, .inl ⟨fun n a hs => hx ⟨n, a, hs⟩, rfl⟩⟩
theorem row_bestE {b : Book} (o : BookOk b) {t : List Int} {u : Int} (q : Nat) (v : Int) : IsBest (RowS b t u q v) (bestE (RowS b t u q v)) := by
  obtain ⟨e, he⟩ := best_ex (S := RowS b t u q v) (B := v) fun n a h => by
    have := row_later o h
    omega
  rw [bestE_eq he]
  exact he
noncomputable def lastG (b : Book) (t : List Int) (u p : Int) : Option End := if askedV b t u p = 0 then some (endR b t u p) else none
set_option maxHeartbeats 1600000 in
set_option maxRecDepth 20000 in
theorem r_last (hE : E.env.fn = G) : Ok E 74 (s4 lastG) := by
  refine ok4 fun b t u p r hr => ?_
  unfold lastG at hr
  split at hr
  · rename_i ha
    cases hr
    have good := goodV_cons (r_ends hE) (goodV_cons (r_better hE) goodV_nil)
    have a := asked_ok ha
    have o := a.o
    have t8 := a.t8
    have t1 := a.t1
    have f0 := a.f0
    have p1 := a.p1
    have fp := a.fp
    have fd := a.w
    have r0 := o.r0
    have r1 := o.r1
    have r2 := o.r2
    obtain ⟨n, hn⟩ : ∃ n, (p - u + 1).toNat = n := ⟨_, rfl⟩
    have hnp : (n : Int) = p - u + 1 := by omega
    obtain ⟨TT, hTT⟩ : ∃ TT, endsT b t u p = TT := ⟨_, rfl⟩
    have hends : endsG b t u p = some TT := by unfold endsG; rw [if_pos ha, hTT]
    have hTl : TT.length = t.length + 1 := by rw [← hTT]; simp [endsT]
    have hrow : ∀ h, TT[t.length]'h = rowT u n (fun q v => bestE (RowS b t u q v)) t.length := fun h => by
      subst hTT
      unfold endsT rowT
      simp [hn]
    have hg := get_List TT t.length (by omega)
    rw [hrow] at hg
    obtain ⟨row, hrw⟩ : ∃ row, rowT u n (fun q v => bestE (RowS b t u q v)) t.length = row := ⟨_, rfl⟩
    have rl : row.length = n := by rw [← hrw]; exact rowTlen
    have htl : t.length < TT.length := by omega
    have htl' : (t.length : Int) < (TT.length : Int) := by omega
    have htl2 : (t.length : Int) < (t.length : Int) + 1 := by omega
    rw [hrw] at hg
    -- the part that counts
    obtain ⟨lo, hlo⟩ : ∃ lo : Nat, max u (p - b.Rest.High) - u = lo := ⟨(max u (p - b.Rest.High) - u).toNat, by have := Int.le_max_left u (p - b.Rest.High); omega⟩
    have hlo2 : max u (p - b.Rest.High) = u + lo := by omega
    have hlon : lo ≤ 6100 := by
      have : max u (p - b.Rest.High) ≤ p := Int.max_le.2 ⟨by omega, by omega⟩
      omega
    obtain ⟨N, hN⟩ : ∃ N, (p - b.Rest.Low + 1 - (u + lo)).toNat = N := ⟨_, rfl⟩
    have hbest : IsBest (FullS b t u p) (rowF 0 row lo N) := by
      have hra : ∀ m, lo + m ≤ n → IsBest (RangeS b t u t.length 0 (u + (lo : Nat)) (u + (lo : Nat) + (m : Nat))) (rowF 0 row lo m) := fun m hm => by
        rw [← hrw]
        exact range_all (p := p) (fun v hv => row_bestE o t.length v) hnp 0 (by decide) m hm
      have hfr := fun n a => full_row (b := b) (text := t) (from_ := u) (pip := p) (n := n) (a := a) o t1 f0
      by_cases hh : p - b.Rest.Low + 1 ≤ u + (lo : Int)
      · have h0 : N = 0 := by omega
        rw [h0]
        refine .inl ⟨fun x y h => ?_, rfl⟩
        obtain ⟨v, v0, v1, v2, _⟩ := (hfr x y).1 h
        have : max u (p - b.Rest.High) ≤ v := Int.max_le.2 ⟨v0, v1⟩
        omega
      · refine isBest_congr (fun x y => ?_) (hra N (by omega))
        rw [hfr]
        unfold RangeS
        rw [show u + (lo : Int) + (N : Int) = p - b.Rest.Low + 1 by omega, ← hlo2]
        have l1 := Int.le_max_left u (p - b.Rest.High)
        have l2 := Int.le_max_right u (p - b.Rest.High)
        constructor
        · rintro ⟨v, v0, v1, v2⟩
          exact ⟨v, by omega, by omega, by omega, by rw [Int.sub_zero] at v2; exact v2⟩
        · rintro ⟨v, v0, v1, v2, v3⟩
          exact ⟨v, Int.max_le.2 ⟨v0, v1⟩, by omega, by rw [Int.sub_zero]; exact v3⟩
    have hT : rowF 0 row lo N = endR b t u p := (bestE_eq hbest).symm
    obtain ⟨T, hTe⟩ : ∃ T, endR b t u p = T := ⟨_, rfl⟩
    rw [hTe] at hT ⊢
    have w1 : IntKind.i64.wrap (p - b.Rest.High) = p - b.Rest.High := wrap64 (by omega) (by omega)
    have w2 : IntKind.i64.wrap (p - b.Rest.Low) = p - b.Rest.Low := wrap64 (by omega) (by omega)
    have hmm : (if u < p - b.Rest.High then p - b.Rest.High else u) = u + (lo : Int) := by
      rw [← hlo2, Int.max_def]; split <;> split <;> omega
    refine VP.run (A := F74) (good) [] (by rw [hE]; rfl) (by simp [F74]) ?_; unfold F74; simp (implicitDefEqProofs := false) [enc_list, hends, htl, htl', htl2, hTl, hg, w1, minmaxV, hmm]
    refine VW.loop_to 0 [(8, .ptr 1 2 0), (10, .ptr 2 2 0)] [bcl b, .cells [.int .i64 0, .int .i64 0], .cells [enc T.pieces, enc T.first]] (True) ?_ (fun hp f m hc => ?_)
    · obtain ⟨Inv, hI⟩ : ∃ Inv : Nat → List (Nat × PV) → VM → Prop, ∀ k f m, Inv k f m ↔ (∃ out : End, f = [(2, .int .i64 u), (3, .int .i64 p), (4, .ptr 0 6 0), (8, .ptr 1 2 0), (9, enc row), (10, .ptr 2 2 0), (11, .int .i64 (u + (lo : Int) + (k : Int)))] ∧ m = [bcl b, .cells [.int .i64 0, .int .i64 0], .cells [enc out.pieces, enc out.first]] ∧ out = rowF 0 row lo k) := ⟨_, fun _ _ _ => Iff.rfl⟩
      refine VW.loop_cut Inv N ?_ ?_ ?_
      · exact ⟨_, _, (hI _ _ _).2 ⟨⟨0, 0⟩, rfl, rfl, rfl⟩, ⟨3, [], by simp [enc_list], by simp, by simp, by simp (implicitDefEqProofs := false) [enc_list], by simp (implicitDefEqProofs := false) [enc_list]⟩⟩
      · intro k f m hk hi
        obtain ⟨out, rfl, rfl, hout⟩ := (hI _ _ _).1 hi
        obtain ⟨z, hz⟩ : ∃ z, lo + k = z := ⟨_, rfl⟩
        obtain ⟨A, hA⟩ : ∃ A, u + (lo : Int) + (k : Int) = A := ⟨_, rfl⟩
        have hst : rowF 0 row lo (k + 1) = addE 0 out (row.getD z ⟨0, 0⟩) := by rw [rowF, ← hout, hz]
        have w3 : IntKind.i64.wrap (A + 1) = u + (lo : Int) + ((k + 1 : Nat) : Int) := by rw [wrap64 (by omega) (by omega)]; omega
        have w4 : IntKind.i64.wrap (A - u) = (z : Int) := by rw [wrap64 (by omega) (by omega)]; omega
        have hzr : z < row.length := by omega
        have hzr' : (z : Int) < row.length := by omega
        have hzl : A ≤ p - b.Rest.Low := by omega
        have hge := get_End row z hzr
        rw [List.getD_eq_getElem?_getD, List.getElem?_eq_getElem hzr, Option.getD_some] at hst
        rw [hA]
        generalize row[z] = e at *
        obtain ⟨o1, o2⟩ := out
        by_cases hp : 0 < e.pieces
        · have hp1 : 1 ≤ e.pieces := by omega
          rw [addE, if_pos hp1, Int.add_zero] at hst
          have e0 : (⟨e.pieces, e.first⟩ : End) = e := rfl
          rw [e0] at hst
          obtain ⟨⟨n1, n2⟩, hb⟩ : ∃ x, betterE ⟨o1, o2⟩ e = x := ⟨_, rfl⟩
          rw [hb] at hst
          refine VW.run good [] ?_; simp (implicitDefEqProofs := false) [enc_list, hzr, hzr', hzl, hge, w2, w3, w4, hp, hb, spliceV]
          exact ⟨_, _, (hI _ _ _).2 ⟨⟨n1, n2⟩, rfl, rfl, hst.symm⟩, ⟨3, [], by simp [enc_list], by simp, by simp, by simp (implicitDefEqProofs := false) [enc_list], by simp (implicitDefEqProofs := false) [enc_list]⟩⟩
        · have hp1 : ¬ 1 ≤ e.pieces := by omega
          rw [addE, if_neg hp1] at hst
          refine VW.run good [] ?_; simp (implicitDefEqProofs := false) [enc_list, hzr, hzr', hzl, hge, w2, w3, w4, hp, spliceV]
          exact ⟨_, _, (hI _ _ _).2 ⟨⟨o1, o2⟩, rfl, rfl, hst.symm⟩, ⟨3, [], by simp [enc_list], by simp, by simp, by simp (implicitDefEqProofs := false) [enc_list], by simp (implicitDefEqProofs := false) [enc_list]⟩⟩
      · intro f m hi
        obtain ⟨out, rfl, rfl, hout⟩ := (hI _ _ _).1 hi
        rw [hT] at hout
        subst hout
        obtain ⟨A, hA⟩ : ∃ A, u + (lo : Int) + (N : Int) = A := ⟨_, rfl⟩
        rw [hA]
        have hzl : ¬ A ≤ p - b.Rest.Low := by omega
        refine VW.run good [] ?_; simp (implicitDefEqProofs := false) [enc_list, w2, hzl]
        exact ⟨3, [], by simp [enc_list], by simp, by simp, by simp (implicitDefEqProofs := false) [enc_list], by simp (implicitDefEqProofs := false) [enc_list]⟩
    · simp (implicitDefEqProofs := false); refine .ofCut hc (VW.run good [] ?_); simp (implicitDefEqProofs := false) [enc_list, spliceV]
  · cases hr
theorem r_Pieces (hE : E.env.fn = G) : Ok E 27 (s4 fun b t u p => some (PiecesR b t u p)) := by
  refine ok4 fun b t u p r hr => ?_
  cases hr
  have good := goodV_cons (r_asked hE) (goodV_cons (r_last hE) goodV_nil)
  by_cases ha : askedV b t u p = 0
  · have hl : lastG b t u p = some (endR b t u p) := if_pos ha
    have hR : PiecesR b t u p = if (endR b t u p).pieces = 0 then (0, 4) else ((endR b t u p).pieces, 0) := if_pos ha
    rw [hR]
    generalize endR b t u p = e at *
    obtain ⟨e1, e2⟩ := e
    by_cases h0 : e1 = 0
    · subst h0
      refine VP.run (A := F27) (good) [] (by rw [hE]; rfl) (by simp [F27]) ?_; unfold F27; simp (implicitDefEqProofs := false) [enc_list, ha, hl, spliceV]
    · refine VP.run (A := F27) (good) [] (by rw [hE]; rfl) (by simp [F27]) ?_; unfold F27; simp (implicitDefEqProofs := false) [enc_list, ha, hl, h0, spliceV]
  · have hR : PiecesR b t u p = (0, askedV b t u p) := if_neg ha
    rw [hR]
    refine VP.run (A := F27) (good) [] (by rw [hE]; rfl) (by simp [F27]) ?_; unfold F27; simp (implicitDefEqProofs := false) [enc_list, ha]
end Go.RS.DC

/- Walks: the reference 05 (9): the announcements of a calendar. -/
namespace Go.RS.DC
open Go Go.RS
open Go.RS.Enc (enc dec)
variable {E : VEnv}
set_option maxHeartbeats 1600000 in
set_option maxRecDepth 20000 in
theorem r_Day (hE : E.env.fn = G) : Ok E 31 (s5 fun b c tick each many => lim c (DayR b c tick each many)) := by
  refine ok5 fun b c tick each many r hr => ?_
  unfold lim at hr
  split at hr
  · rename_i hlim
    cases hr
    have good := goodV_cons (r_Check hE) (goodV_cons (w_Lies hE) (goodV_cons (w_ReadingR hE) (goodV_cons (w_NextR hE) (goodV_cons (r_Words hE) (goodV_cons (r_Pieces hE) goodV_nil)))))
    have lR : ∀ x : Reading × Int, lim c x = some x := fun x => if_pos hlim
    have lN : ∀ x : Int × Int, lim c x = some x := fun x => if_pos hlim
    cases ho : okB b
    · have hck : checkB b = 50 := by unfold checkB; rw [ho]; rfl
      have hR : DayR b c tick each many = ([], 50) := by unfold DayR dayOk; rw [ho]; rfl
      rw [hR]
      refine VP.run (A := F31) (good) [] (by rw [hE]; rfl) (by simp [F31]) ?_; unfold F31; simp (implicitDefEqProofs := false) [enc_list, hck]
    · have hck : checkB b = 0 := by unfold checkB; rw [ho]; rfl
      obtain ⟨⟨Rd1, Rd2⟩, hRd⟩ : ∃ Rd, ReadingR c tick = Rd := ⟨_, rfl⟩
      by_cases h1 : Rd2 = 0
      · obtain ⟨rb1, rb2, rb3, rb4⟩ := reading_b (by rw [hRd]; exact h1)
        cases h2 : wi each 1 60
        · have hR : DayR b c tick each many = ([], 52) := by unfold DayR dayOk; simp [ho, hRd, h1, h2]
          rw [hR]
          refine VP.run (A := F31) (good) [] (by rw [hE]; rfl) (by simp [F31]) ?_; unfold F31; simp (implicitDefEqProofs := false) [enc_list, hck, lR, hRd, h1, h2, spliceV]
        · cases h3 : wi many 1 20
          · have hR : DayR b c tick each many = ([], 52) := by unfold DayR dayOk; simp [ho, hRd, h1, h2, h3]
            rw [hR]
            refine VP.run (A := F31) (good) [] (by rw [hE]; rfl) (by simp [F31]) ?_; unfold F31; simp (implicitDefEqProofs := false) [enc_list, hck, lR, hRd, h1, h2, h3, spliceV]
          · have hR : DayR b c tick each many = (dayV (numR b c) c each many.toNat tick, 0) := by unfold DayR dayOk; simp [ho, hRd, h1, h2, h3]
            rw [hR]
            obtain ⟨mb1, mb2⟩ := (wi_iff _ _ _).1 h3
            obtain ⟨N, hN⟩ : ∃ N : Nat, many = N := ⟨many.toNat, by omega⟩
            subst hN
            rw [Int.toNat_natCast]
            generalize hT : dayV (numR b c) c each N tick = T
            refine VP.func (A := F31) (by rw [hE]; rfl) (by simp [F31]) ?_; unfold F31
            refine VW.seq (VW.run good [] ?_); simp (implicitDefEqProofs := false) [enc_list]
            refine VW.seq (VW.run good [] ?_); simp (implicitDefEqProofs := false) [enc_list, hck]
            refine VW.seq (VW.run good [] ?_); simp (implicitDefEqProofs := false) [enc_list, lR, hRd, h1, h2, h3, spliceV]
            refine .ofCut (l := [(2, .int .i64 tick), (3, .int .i64 each), (4, .int .i64 N), (5, .ptr 0 6 0), (6, .ptr 1 5 0)]) (M := [bcl b, clc c]) ⟨2, [], by simp [enc_list], by simp, by simp, by simp (implicitDefEqProofs := false) [enc_list], by simp (implicitDefEqProofs := false) [enc_list]⟩ ?_
            refine VW.seq (VW.run good [] ?_); simp (implicitDefEqProofs := false) [enc_list]
            refine VW.declare 15 1 (by simp) ?_
            refine VW.seq (VW.block ?_)
            refine VW.loop_to 0 [(15, sl1 2 T)] [bcl b, clc c, .vec (encL T)] (True) ?_ (fun hp f m hc => ?_)
            · obtain ⟨Inv, hI⟩ : ∃ Inv : Nat → List (Nat × PV) → VM → Prop, ∀ k f m, Inv k f m ↔ (∃ (out : List Int) (tk : Int), f = [(2, .int .i64 tk), (3, .int .i64 each), (4, .int .i64 N), (5, .ptr 0 6 0), (6, .ptr 1 5 0), (15, sl1 2 out)] ∧ m = [bcl b, clc c, .vec (encL out)] ∧ out ++ dayV (numR b c) c each (N - k) tk = T ∧ 0 ≤ tk ∧ tk ≤ 1000000 ∧ out.length = k) := ⟨_, fun _ _ _ => Iff.rfl⟩
              refine VW.loop_cut Inv N ?_ ?_ ?_
              · exact ⟨_, _, (hI _ _ _).2 ⟨[], tick, rfl, rfl, by simpa using hT, rb2, by omega, rfl⟩, ⟨3, [], by simp [enc_list], by simp, by simp, by simp (implicitDefEqProofs := false) [enc_list], by simp (implicitDefEqProofs := false) [enc_list]⟩⟩
              · intro k f m hk hi
                obtain ⟨out, tk, rfl, rfl, ht, t0, t1, hl⟩ := (hI _ _ _).1 hi
                have w2 : IntKind.i64.wrap (tk + 1) = tk + 1 := wrap64 (by omega) (by omega)
                have w3 : IntKind.i64.wrap (100 * tk) = 100 * tk := wrap64 (by omega) (by omega)
                have hk' : out.length < N := by omega
                have hk2 : (out.length : Int) < (N : Int) := by omega
                rw [show N - k = (N - (k + 1)) + 1 by omega, dayV] at ht
                by_cases hn : (NextR c (tk + 1) each).2 = 0
                · obtain ⟨n0, n1⟩ := nextR_b hn
                  rw [if_pos hn] at ht
                  obtain ⟨nx, hnx⟩ : ∃ nx, (NextR c (tk + 1) each).1 = nx := ⟨_, rfl⟩
                  have hNx : NextR c (tk + 1) each = (nx, 0) := by rw [← hnx, ← hn]
                  rw [hnx] at ht n0 n1
                  have w4 : IntKind.i64.wrap (100 * nx) = 100 * nx := wrap64 (by omega) (by omega)
                  have hf : fits (out.length + 1) 8 = true := fits8L (by omega)
                  have hnum : numR b c tk nx = if (PiecesR b (textD c nx) (100 * tk) (100 * nx)).2 = 0 then (PiecesR b (textD c nx) (100 * tk) (100 * nx)).1 else -1 := rfl
                  have htx : textD c nx = (WordsR (ReadingR c nx).1).1 := rfl
                  rw [hnum] at ht
                  obtain ⟨rd, hrd⟩ : ∃ rd, ReadingR c nx = rd := ⟨_, rfl⟩
                  obtain ⟨rd1, rd2⟩ := rd
                  rw [hrd] at htx
                  simp only at htx
                  obtain ⟨wr, hwr⟩ : ∃ wr, WordsR rd1 = wr := ⟨_, rfl⟩
                  rw [hwr] at htx
                  obtain ⟨wr1, wr2⟩ := wr
                  simp only at htx
                  rw [htx] at ht
                  obtain ⟨pl, hpl⟩ : ∃ pl, PiecesR b wr1 (100 * tk) (100 * nx) = pl := ⟨_, rfl⟩
                  obtain ⟨pl1, pl2⟩ := pl
                  rw [hpl] at ht
                  simp only at ht
                  by_cases he : pl2 = 0
                  · rw [if_pos he] at ht
                    refine VW.run good [] ?_; simp (implicitDefEqProofs := false) [enc_list, hk', hk2, w2, w3, w4, lN, lR, hNx, hrd, hwr, hpl, he, hf, spliceV]
                    exact ⟨_, _, (hI _ _ _).2 ⟨out ++ [pl1], nx, rfl, rfl, by rw [← ht]; simp, n0, n1, by simp [hl]⟩, ⟨3, [], by simp [enc_list], by simp, by simp, by simp (implicitDefEqProofs := false) [enc_list], by simp (implicitDefEqProofs := false) [enc_list]⟩⟩
                  · rw [if_neg he] at ht
                    refine VW.run good [] ?_; simp (implicitDefEqProofs := false) [enc_list, hk', hk2, w2, w3, w4, lN, lR, hNx, hrd, hwr, hpl, he, hf, spliceV]
                    exact ⟨_, _, (hI _ _ _).2 ⟨out ++ [-1], nx, rfl, rfl, by rw [← ht]; simp, n0, n1, by simp [hl]⟩, ⟨3, [], by simp [enc_list], by simp, by simp, by simp (implicitDefEqProofs := false) [enc_list], by simp (implicitDefEqProofs := false) [enc_list]⟩⟩
                · rw [if_neg hn, List.append_nil] at ht
                  subst ht
                  obtain ⟨⟨nx, ne⟩, hNx⟩ : ∃ r, NextR c (tk + 1) each = r := ⟨_, rfl⟩
                  rw [hNx] at hn
                  simp only at hn
                  refine VW.run good [] ?_; simp (implicitDefEqProofs := false) [enc_list, hk', hk2, w2, w3, lN, hNx, hn]
                  simp (implicitDefEqProofs := false) [enc_list, AExit.leave]
              · intro f m hi
                obtain ⟨out, tk, rfl, rfl, ht, t0, t1, hl⟩ := (hI _ _ _).1 hi
                rw [Nat.sub_self, dayV, List.append_nil] at ht
                subst ht
                refine VW.run good [] ?_; simp (implicitDefEqProofs := false) [enc_list, hl]
                exact ⟨3, [], by simp [enc_list], by simp, by simp, by simp (implicitDefEqProofs := false) [enc_list], by simp (implicitDefEqProofs := false) [enc_list]⟩
            · simp (implicitDefEqProofs := false) [enc_list, AExit.leave]
              refine .ofCut hc (VW.run good [] ?_)
              simp (implicitDefEqProofs := false) [enc_list]
      · have hR : DayR b c tick each many = ([], 52) := by unfold DayR dayOk; simp [ho, hRd, h1]
        rw [hR]
        refine VP.run (A := F31) (good) [] (by rw [hE]; rfl) (by simp [F31]) ?_; unfold F31; simp (implicitDefEqProofs := false) [enc_list, hck, lR, hRd, h1, spliceV]
  · cases hr
end Go.RS.DC

