/- Plain laws (4): an hour as it is served, call by call. -/
import Derived.Test.YtidnkmbicedmjaaDoorWkc
import Derived.Test.YtidnkmbicedmjaaDoorWkd
set_option linter.all false
namespace Go.RS.CC
open Go Go.RS
open Go.RS.Enc (enc dec)
theorem isFree_iff {out : List Served} {c t : Int} : isFree out c t = true ↔ ∀ s ∈ out, s.Channel = c → s.Left ≤ t := by
  unfold isFree
  rw [List.all_eq_true]
  constructor
  · intro h s hs hc
    have := h s hs
    simpa [hc] using this
  · intro h s hs
    have := h s hs
    by_cases hc : s.Channel = c
    · simp [hc, this hc]
    · simp [hc]
theorem isFree_false {out : List Served} {c t : Int} : isFree out c t = false ↔ ∃ s ∈ out, s.Channel = c ∧ t < s.Left := by
  constructor
  · intro h
    by_cases hx : ∃ s ∈ out, s.Channel = c ∧ t < s.Left
    · exact hx
    · have : isFree out c t = true := isFree_iff.2 fun s hs hc => by
        by_cases hl : s.Left ≤ t
        · exact hl
        · exact absurd ⟨s, hs, hc, by omega⟩ hx
      rw [this] at h; cases h
  · rintro ⟨s, hs, hc, hl⟩
    by_cases hx : isFree out c t = true
    · have := isFree_iff.1 hx s hs hc; omega
    · simpa using hx
theorem freeL_cases {out : List Served} {t : Int} : ∀ (n k : Nat), (freeL out t n k = -1 ∧ ∀ c : Nat, k ≤ c → c < k + n → isFree out c t = false) ∨
    (∃ c : Nat, freeL out t n k = c ∧ k ≤ c ∧ c < k + n ∧ isFree out c t = true ∧ ∀ c' : Nat, k ≤ c' → c' < c → isFree out c' t = false)
  | 0, k => .inl ⟨rfl, fun c h1 h2 => by omega⟩
  | n + 1, k => by
    rw [freeL]
    by_cases hf : isFree out k t = true
    · rw [if_pos hf]
      exact .inr ⟨k, rfl, by omega, by omega, hf, fun c' h1 h2 => by omega⟩
    · rw [if_neg hf]
      rcases freeL_cases (out := out) (t := t) n (k + 1) with ⟨h1, h2⟩ | ⟨c, h1, h2, h3, h4, h5⟩
      · refine .inl ⟨h1, fun c g1 g2 => ?_⟩
        by_cases hc : c = k
        · subst hc; simpa using hf
        · exact h2 c (by omega) (by omega)
      · refine .inr ⟨c, h1, by omega, by omega, h4, fun c' g1 g2 => ?_⟩
        by_cases hc : c' = k
        · subst hc; simpa using hf
        · exact h5 c' (by omega) g2
theorem freeR_cases (out : List Served) (ch t : Int) : (freeR out ch t = -1 ∧ ∀ c : Nat, c < ch.toNat → isFree out c t = false) ∨
    (∃ c : Nat, freeR out ch t = c ∧ c < ch.toNat ∧ isFree out c t = true ∧ ∀ c' : Nat, c' < c → isFree out c' t = false) := by
  rcases freeL_cases (out := out) (t := t) ch.toNat 0 with ⟨h1, h2⟩ | ⟨c, h1, h2, h3, h4, h5⟩
  · exact .inl ⟨h1, fun c hc => h2 c (by omega) (by omega)⟩
  · exact .inr ⟨c, h1, by omega, h4, fun c' hc => h5 c' (by omega) hc⟩
theorem seekR_cases {out : List Served} {ch : Int} : ∀ (n : Nat) (a : Int), (seekR out ch n a = none ∧ ∀ u, a ≤ u → u < a + n → freeR out ch u < 0) ∨
    (∃ t, seekR out ch n a = some t ∧ a ≤ t ∧ t < a + n ∧ 0 ≤ freeR out ch t ∧ ∀ u, a ≤ u → u < t → freeR out ch u < 0)
  | 0, a => .inl ⟨rfl, fun u h1 h2 => by omega⟩
  | n + 1, a => by
    rw [seekR]
    by_cases hf : 0 ≤ freeR out ch a
    · rw [if_pos hf]
      exact .inr ⟨a, rfl, by omega, by omega, hf, fun u h1 h2 => by omega⟩
    · rw [if_neg hf]
      rcases seekR_cases (out := out) (ch := ch) n (a + 1) with ⟨h1, h2⟩ | ⟨t, h1, h2, h3, h4, h5⟩
      · refine .inl ⟨h1, fun u g1 g2 => ?_⟩
        by_cases hu : u = a
        · subst hu; omega
        · exact h2 u (by omega) (by omega)
      · refine .inr ⟨t, h1, by omega, by omega, h4, fun u g1 g2 => ?_⟩
        by_cases hu : u = a
        · subst hu; omega
        · exact h5 u (by omega) g2
/-- A call that is given up: on no channel, whenever it waits. -/
structure Gave (out : List Served) (ch : Int) (x : Call) (y : Served) : Prop where
  eq : y = givenP x
  full : ∀ t, x.At ≤ t → t ≤ x.At + x.Wait → ∀ c : Nat, c < ch.toNat → isFree out c t = false
/-- A call that is joined. -/
structure Join (each : Int) (out : List Served) (ch : Int) (x : Call) (y : Served) (c : Nat) : Prop where
  lo : x.At ≤ y.Joined
  hi : y.Joined ≤ x.At + x.Wait
  left : y.Left = untilP each x.Hear y.Joined
  chan : y.Channel = c
  clt : c < ch.toNat
  free : isFree out c y.Joined = true
  least : ∀ c' : Nat, c' < c → isFree out c' y.Joined = false
  full : ∀ u, x.At ≤ u → u < y.Joined → ∀ c : Nat, c < ch.toNat → isFree out c u = false
theorem oneR_cases {each ch : Int} (he : 1 ≤ each) {out : List Served} {x : Call} (hx : callRng x) : Gave out ch x (oneR each out ch x) ∨ ∃ c, Join each out ch x (oneR each out ch x) c := by
  obtain ⟨x1, x2, x3, x4, x5, x6⟩ := hx
  have neg : ∀ u, freeR out ch u < 0 → ∀ c : Nat, c < ch.toNat → isFree out c u = false := fun u hu c hc => by
    rcases freeR_cases out ch u with ⟨h1, h2⟩ | ⟨c', h1, _⟩
    · exact h2 c hc
    · omega
  unfold oneR
  rcases seekR_cases (out := out) (ch := ch) (x.Wait + 1).toNat x.At with ⟨h1, h2⟩ | ⟨t, h1, h2, h3, h4, h5⟩
  · rw [h1]
    exact .inl ⟨rfl, fun t g1 g2 => neg t (h2 t g1 (by omega))⟩
  · rw [h1]
    rcases freeR_cases out ch t with ⟨g1, g2⟩ | ⟨c, g1, g2, g3, g4⟩
    · omega
    · exact .inr ⟨c, h2, by show t ≤ _; omega, end_until he, g1, g2, g3, g4, fun u a b => neg u (h5 u a b)⟩
/-- An hour that is served. -/
structure Sched (each ch : Int) (q : List Call) (S : List Served) : Prop where
  e1 : 1 ≤ each
  e2 : each ≤ 60
  rng : ∀ x ∈ q, callRng x
  ord : ∀ (i j : Nat) (hi : i < q.length) (hj : j < q.length), i ≤ j → q[i].At ≤ q[j].At
  len : S.length = q.length
  one : ∀ (i : Nat) (hq : i < q.length) (hs : i < S.length), S[i] = oneR each (S.take i) ch q[i]
theorem serveR_take {each ch : Int} : ∀ (l : List Call) (out : List Served) (i : Nat) (hi : i < l.length), (serveR each ch out l)[out.length + i]? = some (oneR each ((serveR each ch out l).take (out.length + i)) ch l[i])
  | x :: l, out, 0, hi => by
    obtain ⟨t, h⟩ := serveR_pre (each := each) (ch := ch) l (out ++ [oneR each out ch x])
    rw [serveR, h]; simp
  | x :: l, out, i + 1, hi => by
    have h := serveR_take (each := each) (ch := ch) l (out ++ [oneR each out ch x]) i (by simpa using hi)
    rw [serveR]
    have e : (out ++ [oneR each out ch x]).length + i = out.length + (i + 1) := by simp; omega
    rw [e] at h
    rw [h]; rfl
theorem climbs_ord : ∀ (q : List Call) (last : Int), climbsAt q last → (∀ x ∈ q, last ≤ x.At) ∧ ∀ (i j : Nat) (hi : i < q.length) (hj : j < q.length), i ≤ j → q[i].At ≤ q[j].At
  | [], _, _ => ⟨by simp, fun i j hi => by simp at hi⟩
  | x :: q, last, h => by
    obtain ⟨h1, h2⟩ := climbs_ord q x.At h.2
    refine ⟨fun y hy => ?_, fun i j hi hj hij => ?_⟩
    · rcases List.mem_cons.1 hy with rfl | hy
      · exact h.1
      · have := h1 y hy; have := h.1; omega
    · match i, j with
      | 0, 0 => exact Int.le_refl _
      | 0, j + 1 => exact h1 _ (List.getElem_mem _)
      | i + 1, j + 1 => exact h2 i j (by simpa using hi) (by simpa using hj) (by omega)
      | i + 1, 0 => omega
theorem sched_of {b : Book} (ho : okR b = true) {q : List Call} (hq : q ∈ b.Hours) {ch : Int} : Sched b.Each ch q (serveR b.Each ch [] q) := by
  have bo := okR_ok ho
  have hcl : callsLR b q 0 = true := by
    simp only [okR, Bool.and_eq_true, List.all_eq_true] at ho
    have := ho.2 q hq
    simp only [callsR, Bool.and_eq_true] at this
    exact this.2
  refine ⟨bo.e1, bo.e2, fun x hx => (bo.hc q hq x hx).1, (climbs_ord q 0 (climbs_of b q 0 hcl)).2, by rw [serveR_len]; simp, fun i hi hs => ?_⟩
  have := serveR_take (each := b.Each) (ch := ch) q [] i hi
  simp only [List.length_nil, Nat.zero_add] at this
  rw [List.getElem?_eq_getElem hs] at this
  exact Option.some.inj this
namespace Sched
variable {each ch : Int} {q : List Call} {S : List Served}
theorem cases (s : Sched each ch q S) {i : Nat} (hq : i < q.length) (hs : i < S.length) : Gave (S.take i) ch q[i] S[i] ∨ ∃ c, Join each (S.take i) ch q[i] S[i] c := by
  rw [s.one i hq hs]
  exact oneR_cases s.e1 (s.rng _ (List.getElem_mem hq))
theorem until_b (s : Sched each ch q S) {x : Call} (hx : callRng x) {t : Int} (h0 : 0 ≤ t) : t < untilP each x.Hear t ∧ untilP each x.Hear t ≤ t + 359 := by
  obtain ⟨x1, x2, x3, x4, x5, x6⟩ := hx
  have e1 := s.e1
  have e2 := s.e2
  have q1 := Int.mul_ediv_add_emod (t + each - 1) each
  have q2 := Int.emod_lt_of_pos (t + each - 1) (show 0 < each by omega)
  have q5 := Int.emod_nonneg (t + each - 1) (show each ≠ 0 by omega)
  have q3 : upP each t = each * ((t + each - 1) / each) := Int.mul_comm _ _
  have q4 : 1 * 1 ≤ x.Hear * each := Int.mul_le_mul (by omega) (by omega) (by omega) (by omega)
  have q6 : x.Hear * each ≤ 5 * 60 := Int.mul_le_mul (by omega) (by omega) (by omega) (by omega)
  unfold untilP
  omega
/-- What a call that is joined has. -/
theorem joined (s : Sched each ch q S) {i : Nat} (hq : i < q.length) (hs : i < S.length) (hj : 0 ≤ S[i].Joined) : ∃ c, Join each (S.take i) ch q[i] S[i] c := by
  rcases s.cases hq hs with h | h
  · rw [h.eq] at hj; simp [givenP] at hj
  · exact h
theorem gave (s : Sched each ch q S) {i : Nat} (hq : i < q.length) (hs : i < S.length) (hj : S[i].Joined < 0) : Gave (S.take i) ch q[i] S[i] := by
  rcases s.cases hq hs with h | ⟨c, h⟩
  · exact h
  · obtain ⟨x1, _⟩ := s.rng _ (List.getElem_mem hq)
    have := h.lo
    omega
theorem chan_joined (s : Sched each ch q S) {i : Nat} (hq : i < q.length) (hs : i < S.length) (hc : 0 ≤ S[i].Channel) : 0 ≤ S[i].Joined := by
  rcases s.cases hq hs with h | ⟨c, h⟩
  · rw [h.eq] at hc; simp [givenP] at hc
  · obtain ⟨x1, _⟩ := s.rng _ (List.getElem_mem hq)
    have := h.lo
    omega
theorem left_b (s : Sched each ch q S) {i : Nat} (hq : i < q.length) (hs : i < S.length) (hj : 0 ≤ S[i].Joined) : S[i].Joined < S[i].Left ∧ S[i].Left ≤ S[i].Joined + 359 := by
  obtain ⟨c, h⟩ := s.joined hq hs hj
  rw [h.left]
  exact s.until_b (s.rng _ (List.getElem_mem hq)) hj
theorem mem_take {i : Nat} {x : Served} (h : x ∈ S.take i) : ∃ j, ∃ hj : j < S.length, j < i ∧ S[j] = x := by
  obtain ⟨j, hj, rfl⟩ := List.getElem_of_mem h
  simp at hj
  exact ⟨j, by omega, by omega, by simp⟩
/-- On one channel, one behind the other. -/
theorem behind (s : Sched each ch q S) {i k : Nat} (hi : i < S.length) (hk : k < S.length) (hki : k < i) (hc : S[k].Channel = S[i].Channel) (h0 : 0 ≤ S[i].Channel) : S[k].Left ≤ S[i].Joined := by
  have hq : i < q.length := by rw [← s.len]; exact hi
  obtain ⟨c, h⟩ := s.joined hq hi (s.chan_joined hq hi h0)
  refine isFree_iff.1 h.free S[k] ?_ (by rw [hc, h.chan])
  rw [List.mem_take_iff_getElem]
  exact ⟨k, by omega, rfl⟩
/-- Who is on a channel that is taken. -/
theorem holder (s : Sched each ch q S) {c : Nat} (hc : c < ch.toNat) {a : Int} : ∀ (i : Nat), i ≤ S.length → (∀ (k : Nat) (hk : k < q.length), k < i → q[k].At ≤ a) → isFree (S.take i) c a = false → ∃ k, ∃ hk : k < S.length, k < i ∧ S[k].Channel = c ∧ 0 ≤ S[k].Joined ∧ S[k].Joined ≤ a ∧ a < S[k].Left := by
  intro i
  induction i using Nat.strongRecOn with
  | ind i ih =>
    intro hi ha hf
    obtain ⟨x, hx, hxc, hxl⟩ := isFree_false.1 hf
    obtain ⟨k, hk, hki, rfl⟩ := mem_take hx
    have hq : k < q.length := by rw [← s.len]; exact hk
    have hj := s.chan_joined hq hk (by omega)
    by_cases hja : S[k].Joined ≤ a
    · exact ⟨k, hk, hki, hxc, hj, hja, hxl⟩
    · obtain ⟨d, h⟩ := s.joined hq hk hj
      obtain ⟨m, hm, hmk, r⟩ := ih k hki (by omega) (fun m hm hmk => ha m hm (by omega)) (h.full a (ha k hq hki) (by omega) c hc)
      exact ⟨m, hm, by omega, r⟩
end Sched
/-! ### How many -/
theorem chan_le : ∀ (n : Nat) (out : List Served), out.Pairwise (fun s t => s.Channel ≠ t.Channel) → (∀ s ∈ out, 0 ≤ s.Channel ∧ s.Channel < n) → out.length ≤ n
  | 0, out, _, h => by
    cases out with
    | nil => simp
    | cons s l => have := h s (by simp); omega
  | n + 1, out, hp, h => by
    have h1 := chan_le n (out.filter fun s => decide (s.Channel ≠ (n : Int))) (hp.filter _) fun s hs => by
      simp only [List.mem_filter, decide_eq_true_eq] at hs
      have := h s hs.1
      omega
    have h2 : ∀ l : List Served, l.Pairwise (fun s t => s.Channel ≠ t.Channel) → l.length ≤ (l.filter fun s => decide (s.Channel ≠ (n : Int))).length + 1 := by
      intro l
      induction l with
      | nil => intro _; simp
      | cons x l ih =>
        intro hp
        obtain ⟨hx, hp⟩ := List.pairwise_cons.1 hp
        by_cases hc : x.Channel = n
        · have : l.filter (fun s => decide (s.Channel ≠ (n : Int))) = l := List.filter_eq_self.2 fun s hs => by
            have := hx s hs
            simp; omega
          rw [List.filter_cons_of_neg (by simp [hc]), this]
          simp
        · rw [List.filter_cons_of_pos (by simp [hc])]
          have := ih hp
          rw [List.length_cons, List.length_cons]; omega
    have := h2 out hp
    omega
def onAt (a : Int) (s : Served) : Bool := decide (0 ≤ s.Joined) && decide (s.Joined ≤ a) && decide (a < s.Left)
theorem joinedR_len (l : List Served) (a : Int) : joinedR l a = (l.filter (onAt a)).length := by
  unfold joinedR onAt
  rw [List.countP_eq_length_filter]
namespace Sched
variable {each ch : Int} {q : List Call} {S : List Served}
theorem apart (s : Sched each ch q S) (a : Int) : ((S.filter (onAt a))).Pairwise (fun s t => s.Channel ≠ t.Channel) ∧ ∀ x ∈ S.filter (onAt a), 0 ≤ x.Channel ∧ x.Channel < ch.toNat := by
  have mem : ∀ (i : Nat) (hi : i < S.length), onAt a S[i] = true → ∃ c : Nat, S[i].Channel = c ∧ c < ch.toNat := fun i hi h => by
    simp only [onAt, Bool.and_eq_true, decide_eq_true_eq] at h
    obtain ⟨c, hc⟩ := s.joined (by rw [← s.len]; exact hi) hi h.1.1
    exact ⟨c, hc.chan, hc.clt⟩
  constructor
  · rw [List.pairwise_filter, List.pairwise_iff_getElem]
    intro i j hi hj hij h1 h2 hc
    obtain ⟨c, hcj, _⟩ := mem j hj h2
    have := s.behind hj hi hij hc (by omega)
    simp only [onAt, Bool.and_eq_true, decide_eq_true_eq] at h1 h2
    omega
  · intro x hx
    rw [List.mem_filter] at hx
    obtain ⟨i, hi, rfl⟩ := List.getElem_of_mem hx.1
    obtain ⟨c, hc, hlt⟩ := mem i hi hx.2
    omega
theorem joined_le (s : Sched each ch q S) (a : Int) : joinedR S a ≤ ch.toNat := by
  rw [joinedR_len]
  obtain ⟨h1, h2⟩ := s.apart a
  exact chan_le _ _ h1 h2
theorem take_le (i : Nat) (a : Int) : joinedR (S.take i) a ≤ joinedR S a := by
  unfold joinedR
  exact List.Sublist.countP_le (List.take_sublist i S)
/-- While no channel is free as many are joined as there are channels. -/
theorem full (s : Sched each ch q S) {i : Nat} (hi : i ≤ S.length) {a : Int} (ha : ∀ (k : Nat) (hk : k < q.length), k < i → q[k].At ≤ a) (hf : ∀ c : Nat, c < ch.toNat → isFree (S.take i) c a = false) : joinedR (S.take i) a = ch.toNat := by
  have h1 : joinedR (S.take i) a ≤ ch.toNat := Nat.le_trans (take_le i a) (s.joined_le a)
  have h2 : ch.toNat ≤ joinedR (S.take i) a := by
    rw [joinedR_len]
    refine chan_len _ _ fun c hc => ?_
    obtain ⟨k, hk, hki, e1, e2, e3, e4⟩ := s.holder hc i hi ha (hf c hc)
    refine ⟨S[k], List.mem_filter.2 ⟨?_, by simp [onAt, e2, e3, e4]⟩, e1⟩
    rw [List.mem_take_iff_getElem]
    exact ⟨k, by omega, rfl⟩
  omega
end Sched
end Go.RS.CC

/- Plain laws (5): more channels; as many as are needed; who waits long enough. -/
namespace Go.RS.CC
open Go Go.RS
open Go.RS.Enc (enc dec)
theorem countP_mono {p : Served → Bool} : ∀ {l l' : List Served}, l.length = l'.length → (∀ (i : Nat) (h : i < l.length) (h' : i < l'.length), p l[i] = true → p l'[i] = true) → l.countP p ≤ l'.countP p
  | [], [], _, _ => Nat.le_refl _
  | x :: l, y :: l', hl, h => by
    have ih := countP_mono (p := p) (l := l) (l' := l') (by simpa using hl) fun i a b => h (i + 1) (by simpa using a) (by simpa using b)
    have h0 := h 0 (by simp) (by simp)
    simp only [List.getElem_cons_zero] at h0
    rw [List.countP_cons, List.countP_cons]
    by_cases hx : p x = true
    · rw [if_pos hx, if_pos (h0 hx)]; omega
    · rw [if_neg hx]; omega
  | [], _ :: _, hl, _ => by simp at hl
  | _ :: _, [], hl, _ => by simp at hl
theorem until_mono {each hear t u : Int} (he : 1 ≤ each) (h : t ≤ u) : untilP each hear t ≤ untilP each hear u := by
  unfold untilP upP
  have h1 : (t + each - 1) / each ≤ (u + each - 1) / each := Int.ediv_le_ediv (by omega) (by omega)
  have h2 := Int.mul_le_mul_of_nonneg_right h1 (show 0 ≤ each by omega)
  omega
theorem join_one {each ch : Int} (he : 1 ≤ each) {out : List Served} {x : Call} (hx : callRng x) {y : Served} {c : Nat} (h : Join each out ch x y c) : oneR each out ch x = y := by
  rcases oneR_cases (ch := ch) he (out := out) hx with g | ⟨d, g⟩
  · have := g.full _ h.lo h.hi c h.clt
    rw [h.free] at this; cases this
  · have hj : (oneR each out ch x).Joined = y.Joined := by
      by_cases h1 : (oneR each out ch x).Joined < y.Joined
      · have := h.full _ g.lo h1 d g.clt
        rw [g.free] at this; cases this
      · by_cases h2 : y.Joined < (oneR each out ch x).Joined
        · have := g.full _ h.lo h2 c h.clt
          rw [h.free] at this; cases this
        · omega
    have hd : d = c := by
      by_cases h1 : d < c
      · have := h.least d h1
        rw [← hj, g.free] at this; cases this
      · by_cases h2 : c < d
        · have := g.least c h2
          rw [hj, h.free] at this; cases this
        · omega
    have e1 := g.left
    have e2 := g.chan
    rw [hj, ← h.left] at e1
    rw [hd, ← h.chan] at e2
    rw [← eta_Served (oneR each out ch x), ← eta_Served y, hj, e1, e2]
namespace Sched
variable {each ch ch' : Int} {q : List Call} {S S' : List Served}
theorem uniq (s : Sched each ch q S) : serveR each ch [] q = S := by
  have key : ∀ (l : List Call) (out : List Served), (∀ (i : Nat) (hq : i < l.length), S[out.length + i]? = some (oneR each (S.take (out.length + i)) ch l[i])) → out = S.take out.length → S.length = out.length + l.length → serveR each ch out l = S := by
    intro l
    induction l with
    | nil =>
      intro out h1 h2 h3
      rw [serveR, h2]
      exact List.take_of_length_le (by simp at h3; omega)
    | cons x l ih =>
      intro out h1 h2 h3
      have h0 := h1 0 (by simp)
      simp only [Nat.add_zero, List.getElem_cons_zero] at h0
      rw [← h2] at h0
      rw [serveR]
      have hlt : out.length < S.length := (List.getElem?_eq_some_iff.1 h0).1
      refine ih _ (fun i hi => ?_) ?_ ?_
      · have := h1 (i + 1) (by simpa using hi)
        have e : (out ++ [oneR each out ch x]).length + i = out.length + (i + 1) := by simp; omega
        rw [e, this]; rfl
      · rw [List.length_append, List.length_singleton, List.take_succ, h0, ← h2]; rfl
      · simp only [List.length_append, List.length_cons, List.length_nil] at h3 ⊢; omega
  refine key q [] (fun i hi => ?_) (by simp) (by simpa using s.len)
  have hs : i < S.length := by rw [s.len]; exact hi
  simp only [List.length_nil, Nat.zero_add]
  rw [List.getElem?_eq_getElem hs, s.one i hi hs]
theorem order (s : Sched each ch q S) {i k : Nat} (hi : i < S.length) (hk : k < S.length) (hki : k < i) (h1 : 0 ≤ S[k].Joined) (h2 : 0 ≤ S[i].Joined) : S[k].Joined ≤ S[i].Joined := by
  by_cases hx : S[k].Joined ≤ S[i].Joined
  · exact hx
  · have hqi : i < q.length := by rw [← s.len]; exact hi
    have hqk : k < q.length := by rw [← s.len]; exact hk
    obtain ⟨c, h⟩ := s.joined hqi hi h2
    obtain ⟨d, g⟩ := s.joined hqk hk h1
    have ho := s.ord k i hqk hqi (by omega)
    have hlo := h.lo
    have hf := g.full S[i].Joined (by omega) (by omega) c h.clt
    obtain ⟨x, hx1, hx2, hx3⟩ := isFree_false.1 hf
    have := isFree_iff.1 h.free x (by
      have : S.take k = (S.take i).take k := by rw [List.take_take, Nat.min_eq_left (by omega)]
      rw [this] at hx1
      exact List.mem_of_mem_take hx1) hx2
    omega
/-- Where somebody is joined one channel at least was free. -/
theorem room (s : Sched each ch q S) {i : Nat} (hi : i < S.length) (hj : 0 ≤ S[i].Joined) : joinedR (S.take i) S[i].Joined < ch.toNat := by
  have hq : i < q.length := by rw [← s.len]; exact hi
  have h1 : joinedR (S.take (i + 1)) S[i].Joined ≤ ch.toNat := Nat.le_trans (take_le _ _) (s.joined_le _)
  obtain ⟨b1, b2⟩ := s.left_b hq hi hj
  unfold joinedR at h1 ⊢
  rw [List.take_succ_eq_append_getElem hi, List.countP_append, List.countP_singleton, if_pos (by simp [hj, b1])] at h1
  omega
/-- More channels, and nobody is joined later. -/
theorem more (s : Sched each ch q S) (s' : Sched each ch' q S') (hch : ch ≤ ch') (hn : ∀ x ∈ S, 0 ≤ x.Joined) : ∀ (i : Nat) (hi : i < S.length) (hi' : i < S'.length), 0 ≤ S'[i].Joined ∧ S'[i].Joined ≤ S[i].Joined := by
  intro i
  induction i using Nat.strongRecOn with
  | ind i ih =>
    intro hi hi'
    have hq : i < q.length := by rw [← s.len]; exact hi
    have hj := hn _ (List.getElem_mem hi)
    obtain ⟨c, h⟩ := s.joined hq hi hj
    have h1 := s.room hi hj
    have hle : joinedR (S'.take i) S[i].Joined ≤ joinedR (S.take i) S[i].Joined := by
      unfold joinedR
      refine countP_mono (by simp; omega) fun k hk hk' hp => ?_
      simp only [List.length_take] at hk hk'
      have hk1 : k < S.length := by omega
      have hk2 : k < S'.length := by omega
      have hki : k < i := by omega
      rw [List.getElem_take] at hp ⊢
      obtain ⟨g1, g2⟩ := ih k hki hk1 hk2
      have hkj := hn _ (List.getElem_mem hk1)
      have hkq : k < q.length := by omega
      obtain ⟨d, g⟩ := s.joined hkq hk1 hkj
      obtain ⟨d', g'⟩ := s'.joined hkq hk2 g1
      have hm := until_mono (hear := q[k].Hear) s.e1 g2
      rw [← g.left, ← g'.left] at hm
      have ho := s.order hi hk1 hki hkj hj
      simp only [Bool.and_eq_true, decide_eq_true_eq] at hp ⊢
      omega
    obtain ⟨x1, _⟩ := s.rng _ (List.getElem_mem hq)
    have hlo := h.lo
    have hhi := h.hi
    have hnf : ¬ ∀ c : Nat, c < ch'.toNat → isFree (S'.take i) c S[i].Joined = false := fun hf => by
      have := s'.full (i := i) (by omega) (a := S[i].Joined) (fun k hk hki => by have := s.ord k i hk hq (by omega); omega) hf
      omega
    rcases s'.cases hq hi' with g | ⟨d, g⟩
    · exact absurd (g.full _ hlo hhi) hnf
    · have glo := g.lo
      refine ⟨by omega, ?_⟩
      by_cases hx : S'[i].Joined ≤ S[i].Joined
      · exact hx
      · exact absurd (g.full _ hlo (by omega)) hnf
/-- The channel of a call is one of as many as are busy then. -/
theorem chan_lt (s : Sched each ch q S) {i : Nat} (hi : i < S.length) {c : Nat} (h : ∀ hq : i < q.length, Join each (S.take i) ch q[i] S[i] c) : c < joinedR S S[i].Joined := by
  have hq : i < q.length := by rw [← s.len]; exact hi
  have h := h hq
  obtain ⟨x1, _⟩ := s.rng _ (List.getElem_mem hq)
  have hlo := h.lo
  have hj : 0 ≤ S[i].Joined := by omega
  obtain ⟨b1, b2⟩ := s.left_b hq hi hj
  have h1 : c + 1 ≤ joinedR S S[i].Joined := by
    rw [joinedR_len]
    refine chan_len _ _ fun d hd => ?_
    by_cases hdc : d = c
    · subst hdc
      exact ⟨S[i], List.mem_filter.2 ⟨List.getElem_mem hi, by simp [onAt, hj, b1]⟩, h.chan⟩
    · obtain ⟨k, hk, hki, e1, e2, e3, e4⟩ := s.holder (c := d) (by have := h.clt; omega) (a := S[i].Joined) i (by omega) (fun k hk hki => by have := s.ord k i hk hq (by omega); omega) (h.least d (by omega))
      exact ⟨S[k], List.mem_filter.2 ⟨List.getElem_mem hk, by simp [onAt, e2, e3, e4]⟩, e1⟩
  omega
/-- On as many channels as are busy at most nothing changes. -/
theorem fewer (s : Sched each ch q S) (hn : ∀ x ∈ S, 0 ≤ x.Joined) {m : Int} (hm : m ≤ ch) (hmax : ∀ (i : Nat) (hi : i < S.length), (joinedR S S[i].Joined : Int) ≤ m) : serveR each m [] q = S := by
  refine uniq (ch := m) ⟨s.e1, s.e2, s.rng, s.ord, s.len, fun i hq hs => ?_⟩
  obtain ⟨c, h⟩ := s.joined hq hs (hn _ (List.getElem_mem hs))
  have hc := s.chan_lt hs (fun _ => h)
  have := hmax i hs
  exact (join_one s.e1 (s.rng _ (List.getElem_mem hq)) ⟨h.lo, h.hi, h.left, h.chan, by omega, h.free, h.least, fun u a b d hd => h.full u a b d (by omega)⟩).symm
/-- All channels are taken for so long at most. -/
theorem full_lt (s : Sched each ch q S) (hc : 1 ≤ ch) {A : Int} (h0 : 0 ≤ A) : ∀ (i : Nat), i ≤ S.length → (∀ (k : Nat) (hk : k < q.length), k < i → q[k].At ≤ A) → ∀ t, (∀ (k : Nat) (hk : k < q.length), k < i → q[k].At ≤ t) → (∀ c : Nat, c < ch.toNat → isFree (S.take i) c t = false) → t < A + 59 + 300 * i := by
  intro i
  induction i using Nat.strongRecOn with
  | ind i ih =>
    intro hi ha t ht hf
    obtain ⟨k, hk, hki, e1, e2, e3, e4⟩ := s.holder (c := 0) (by omega) i hi ht (hf 0 (by omega))
    have hq : k < q.length := by rw [← s.len]; exact hk
    obtain ⟨c, h⟩ := s.joined hq hk e2
    have hx := s.rng _ (List.getElem_mem hq)
    have hak := ha k hq hki
    have hlo := h.lo
    by_cases hw : S[k].Joined ≤ q[k].At
    · obtain ⟨_, b2⟩ := s.left_b hq hk e2
      omega
    · have hb := ih k hki (by omega) (fun m hm hmk => ha m hm (by omega)) (S[k].Joined - 1) (fun m hm hmk => by have := s.ord m k hm hq (by omega); omega) (fun d hd => h.full _ (by omega) (by omega) d hd)
      obtain ⟨m, hm, hmk, f1, f2, f3, f4⟩ := s.holder (c := c) h.clt k (by omega) (a := S[k].Joined - 1) (fun m hm hmk => by have := s.ord m k hm hq (by omega); omega) (h.full _ (by omega) (by omega) c h.clt)
      have hml := isFree_iff.1 h.free S[m] (by rw [List.mem_take_iff_getElem]; exact ⟨m, by omega, rfl⟩) f1
      have hmq : m < q.length := by rw [← s.len]; exact hm
      obtain ⟨d, g⟩ := s.joined hmq hm f2
      have hmul : S[k].Joined = ((S[m].Joined + each - 1) / each + q[m].Hear) * each := by
        have : S[k].Joined = S[m].Left := by omega
        rw [this, g.left, untilP, upP, Int.add_mul]
      have e1' := s.e1
      have e2' := s.e2
      have hup : upP each S[k].Joined = S[k].Joined := by
        unfold upP
        generalize (S[m].Joined + each - 1) / each + q[m].Hear = z at hmul
        have : (S[k].Joined + each - 1) / each = z := by
          rw [hmul]
          refine ((Int.ediv_emod_unique (r := each - 1) (show 0 < each by omega)).2 ⟨?_, by omega, by omega⟩).1
          rw [Int.mul_comm each z]; omega
        rw [this, hmul]
      obtain ⟨x1, x2, x3, x4, x5, x6⟩ := hx
      have hl := h.left
      rw [untilP, hup] at hl
      have hhe : q[k].Hear * each ≤ 5 * 60 := Int.mul_le_mul (by omega) (by omega) (by omega) (by omega)
      omega
end Sched
end Go.RS.CC

/- Plain laws (6): the calls that are given up; a call that waits longer. -/
namespace Go.RS.CC
open Go Go.RS
open Go.RS.Enc (enc dec)
theorem chg_worse : ∀ (S T : List Served) (k : Nat), (∀ (i : Nat) (h : i < S.length) (h' : i < T.length), sooner S[i] T[i] = false) → (chgL k S T).2 = []
  | [], T, k, _ => by cases T <;> rfl
  | a :: S, [], k, _ => rfl
  | a :: S, c :: T, k, h => by
    have h0 := h 0 (by simp) (by simp)
    simp only [List.getElem_cons_zero] at h0
    rw [chgL, h0]
    simp only [Bool.false_eq_true, if_false, List.nil_append]
    exact chg_worse S T (k + 1) fun i g g' => h (i + 1) (by simpa using g) (by simpa using g')
theorem LostR_of {b : Book} {h c : Int} (ha : askedR b h c = 0) : LostR b h c = (lostL 0 (serveR b.Each c [] (hourOf b h)), 0) := by
  unfold LostR
  rw [show ServeR b h c = (serveR b.Each c [] (hourOf b h), 0) by rw [ServeR, if_pos ha]]
  rfl
theorem joined_of_lost : ∀ (l : List Served) (i : Nat), (lostL i l).length = 0 → ∀ s ∈ l, 0 ≤ s.Joined
  | [], _, _, s, hs => by cases hs
  | x :: l, i, h, s, hs => by
    rw [lostL] at h
    split at h
    · simp at h
    · rcases List.mem_cons.1 hs with rfl | hs
      · omega
      · exact joined_of_lost l (i + 1) h s hs
theorem lost_climbs : ∀ (S : List Served) (i : Nat) (least n : Int), least ≤ i → (i : Int) + S.length ≤ n → n ≤ 1000000 → climbsR n least (lostL i S) = true
  | [], _, _, _, _, _, _ => rfl
  | s :: S, i, least, n, h1, h2, h3 => by
    simp only [List.length_cons] at h2
    rw [lostL]
    split
    · have w1 : IntKind.i64.wrap (n - 1) = n - 1 := wrap64 (by omega) (by omega)
      have w2 : IntKind.i64.wrap ((i : Int) + 1) = i + 1 := wrap64 (by omega) (by omega)
      rw [climbsR, w1, w2, (wi_iff _ _ _).2 ⟨h1, by omega⟩, lost_climbs S (i + 1) ((i : Int) + 1) n (by omega) (by omega) h3]
      rfl
    · exact lost_climbs S (i + 1) least n (by omega) (by omega) h3
theorem find_nneg (n : Int) : ∀ (l : List Int) (k : Nat), (0 ≤ findR n k l ↔ n ∈ l)
  | [], k => by simp [findR]
  | x :: l, k => by
    rw [findR]
    by_cases hx : x = n
    · rw [if_pos hx]; simp [hx]
    · rw [if_neg hx, find_nneg n l (k + 1)]
      simp only [List.mem_cons]
      constructor
      · exact .inr
      · rintro (h | h)
        · exact absurd h.symm hx
        · exact h
theorem mem_lost : ∀ (S : List Served) (k : Nat) (x : Int), x ∈ lostL k S ↔ ∃ i, ∃ h : i < S.length, x = ((k + i : Nat) : Int) ∧ S[i].Joined < 0
  | [], k, x => by simp [lostL]
  | s :: S, k, x => by
    rw [lostL]
    have ih := mem_lost S (k + 1) x
    by_cases hs : s.Joined < 0
    · rw [if_pos hs, List.mem_cons, ih]
      constructor
      · rintro (rfl | ⟨i, h, e, g⟩)
        · exact ⟨0, by simp, rfl, hs⟩
        · exact ⟨i + 1, by simpa using h, by rw [e]; omega, g⟩
      · rintro ⟨i, h, e, g⟩
        cases i with
        | zero => exact .inl (by simpa using e)
        | succ i => exact .inr ⟨i, by simpa using h, by rw [e]; omega, g⟩
    · rw [if_neg hs, ih]
      constructor
      · rintro ⟨i, h, e, g⟩
        exact ⟨i + 1, by simpa using h, by rw [e]; omega, g⟩
      · rintro ⟨i, h, e, g⟩
        cases i with
        | zero => exact absurd g hs
        | succ i => exact ⟨i, by simpa using h, by rw [e]; omega, g⟩
theorem lost_first : ∀ (S : List Served) (k : Nat) (x : Int) (L : List Int), lostL k S = x :: L → ∃ i, ∃ h : i < S.length, x = ((k + i : Nat) : Int) ∧ S[i].Joined < 0 ∧ ∀ (j : Nat) (hj : j < S.length), j < i → 0 ≤ S[j].Joined
  | [], k, x, L, h => by cases h
  | s :: S, k, x, L, h => by
    rw [lostL] at h
    by_cases hs : s.Joined < 0
    · rw [if_pos hs] at h
      cases h
      exact ⟨0, by simp, rfl, hs, fun j _ h => by omega⟩
    · rw [if_neg hs] at h
      obtain ⟨i, h1, e, g, f⟩ := lost_first S (k + 1) x L h
      refine ⟨i + 1, by simpa using h1, by rw [e]; omega, g, fun j hj hji => ?_⟩
      cases j with
      | zero => simp only [List.getElem_cons_zero]; omega
      | succ j => exact f j (by simpa using hj) (by omega)
def longer (x : Call) : Call := ⟨x.At, 3600, x.Hear, x.From⟩
theorem callsLR_longer (b : Book) : ∀ (q : List Call) (i : Nat) (hi : i < q.length) (last : Int), callsLR b q last = true → callsLR b (q.set i (longer q[i])) last = true
  | x :: q, 0, hi, last, h => by
    simp only [List.set_cons_zero, List.getElem_cons_zero]
    rw [callsLR, Bool.and_eq_true] at h ⊢
    refine ⟨?_, h.2⟩
    have := h.1
    simp only [callOkR, Bool.and_eq_true, longer] at this ⊢
    exact ⟨⟨⟨this.1.1.1, rfl⟩, this.1.2⟩, this.2⟩
  | x :: q, i + 1, hi, last, h => by
    simp only [List.set_cons_succ, List.getElem_cons_succ]
    rw [callsLR, Bool.and_eq_true] at h ⊢
    exact ⟨h.1, callsLR_longer b q i (by simpa using hi) x.At h.2⟩
def withHour (b : Book) (h : Nat) (q : List Call) : Book := ⟨b.Each, b.Fee, b.Rate, b.Unit, b.Shares, b.Hours.set h q⟩
theorem callsLR_same (b b' : Book) (hs : b'.Shares = b.Shares) : ∀ (q : List Call) (last : Int), callsLR b' q last = callsLR b q last
  | [], _ => rfl
  | x :: q, last => by rw [callsLR, callsLR, callsLR_same b b' hs q, callOkR, callOkR, hs]
theorem okR_with {b : Book} (ho : okR b = true) {h : Nat} {q : List Call} (hh : h < b.Hours.length) (hg : b.Hours[h] = q) {i : Nat} (hi : i < q.length) : okR (withHour b h (q.set i (longer q[i]))) = true := by
  simp only [okR, Bool.and_eq_true, List.all_eq_true] at ho ⊢
  obtain ⟨⟨h1, h2⟩, h3⟩ := ho
  refine ⟨⟨?_, h2⟩, fun l hl => ?_⟩
  · simp only [headR, withHour, List.length_set] at h1 ⊢; exact h1
  · have key : callsR (withHour b h (q.set i (longer q[i]))) l = callsR b l := by
      unfold callsR
      rw [callsLR_same b (withHour b h (q.set i (longer q[i]))) rfl]
    rw [key]
    rcases List.mem_or_eq_of_mem_set hl with hl | rfl
    · exact h3 l hl
    · have := h3 q (hg ▸ List.getElem_mem hh)
      simp only [callsR, Bool.and_eq_true, decide_eq_true_eq] at this ⊢
      exact ⟨by simpa using this.1, callsLR_longer b q i hi 0 this.2⟩
namespace Sched
variable {each ch : Int} {q q' : List Call} {S S' : List Served}
theorem same_before (s : Sched each ch q S) (s' : Sched each ch q' S') (i : Nat) (hq : ∀ (k : Nat) (h : k < q.length) (h' : k < q'.length), k < i → q'[k] = q[k]) : ∀ (k : Nat) (h : k < S.length) (h' : k < S'.length), k < i → S'[k] = S[k] := by
  intro k
  induction k using Nat.strongRecOn with
  | ind k ih =>
    intro h h' hk
    have hl : k < q.length := by rw [← s.len]; exact h
    have hl' : k < q'.length := by rw [← s'.len]; exact h'
    rw [s.one k hl h, s'.one k hl' h', hq k hl hl' hk]
    have : S'.take k = S.take k := by
      apply List.ext_getElem
      · simp; omega
      · intro j g1 g2
        simp only [List.length_take] at g1 g2
        rw [List.getElem_take, List.getElem_take]
        exact ih j (by omega) (by omega) (by omega) (by omega)
    rw [this]
/-- The first one that is given up would be joined, if it waited as long as can be. -/
theorem longer (s : Sched each ch q S) (s' : Sched each ch q' S') (hc : 1 ≤ ch) {i : Nat} (hi : i < S.length) (hi' : i < S'.length) (hq : i < q.length) (hq' : i < q'.length) (h11 : i ≤ 11) (hx : q'[i] = longer q[i])
    (hsame : S'.take i = S.take i) (hneg : S[i].Joined < 0) : S[i].Left < S'[i].Joined := by
  have g := s.gave hq hi hneg
  have hL : S[i].Left = q[i].At + q[i].Wait := by rw [g.eq]; rfl
  obtain ⟨x1, x2, x3, x4, x5, x6⟩ := s.rng _ (List.getElem_mem hq)
  have e1 : q'[i].At = q[i].At := by rw [hx]; rfl
  have e2 : q'[i].Wait = 3600 := by rw [hx]; rfl
  rcases s'.cases hq' hi' with g' | ⟨c, j⟩
  · have hf := g'.full (q[i].At + 3600) (by omega) (by omega)
    rw [hsame] at hf
    have := s.full_lt hc (A := q[i].At) x1 i (by omega) (fun k hk hki => s.ord k i hk hq (by omega)) (q[i].At + 3600) (fun k hk hki => by have := s.ord k i hk hq (by omega); omega) hf
    omega
  · have hlo := j.lo
    have hfr := j.free
    rw [hsame] at hfr
    by_cases hx : S'[i].Joined ≤ q[i].At + q[i].Wait
    · have := g.full S'[i].Joined (by omega) hx c j.clt
      rw [hfr] at this; cases this
    · omega
end Sched
end Go.RS.CC

