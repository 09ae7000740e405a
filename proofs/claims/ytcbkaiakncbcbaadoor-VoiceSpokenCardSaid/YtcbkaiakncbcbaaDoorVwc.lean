/- Walks: the program (14): the closure that finds the best way to go on. -/
import Derived.Test.YtcbkaiakncbcbaaDoorVwb
set_option linter.all false
namespace Go.RS.DC
open Go Go.RS
open Go.RS.Enc (enc dec)
variable {E : VEnv}
abbrev keyS (x : Nat × Int) : PV := .agg [.int .i64 (x.1 : Int), .int .i64 x.2]
abbrev encW (w : Found) : PV := .agg [.int .i64 w.pieces, .int .i64 w.piece, .int .i64 w.at_]
abbrev celW (w : Found) : VObj := .cells [.int .i64 w.pieces, .int .i64 w.piece, .int .i64 w.at_]
def WayE (b : Book) (text : List Int) (pip : Int) (x : Nat × Int) (v : PV) : Prop := v = encW (waysR b text pip x.1 x.2)
abbrev waysC (kb tb pb bb fb : Nat) : PV := .func 111 [] [.ptr kb 1 0, .ptr tb 1 0, .ptr pb 1 0, .ptr bb 16 0, .ptr fb 1 0]
structure WayB (b : Book) (a : Arr 10 Bool) (text : List Int) (pip : Int) (bb tb pb kb fb mi : Nat) (M : VM) : Prop where
  hb : M[bb]? = some (kbl b a.l)
  ht : M[tb]? = some (.cells [enc text])
  hp : M[pb]? = some (.cells [.int .i64 pip])
  hk : M[kb]? = some (.cells [.map mi])
  hf : M[fb]? = some (.cells [waysC kb tb pb bb fb])
  hm : ∃ es clock, M[mi]? = some (.map es clock)
theorem WayB.set {b : Book} {a : Arr 10 Bool} {text : List Int} {pip : Int} {bb tb pb kb fb mi : Nat} {M : VM} (h : WayB b a text pip bb tb pb kb fb mi M) (es : List (PV × PV × Nat)) (clock : Nat) (ext : VM) : WayB b a text pip bb tb pb kb fb mi (M.set mi (.map es clock) ++ ext) := by
  refine ⟨set_other h.hm h.hb ext, set_other h.hm h.ht ext, set_other h.hm h.hp ext, set_other h.hm h.hk ext, set_other h.hm h.hf ext, es, clock, ?_⟩
  obtain ⟨es0, c0, hm⟩ := h.hm
  have hi := (List.getElem?_eq_some_iff.1 hm).1
  rw [List.getElem?_append_left (by simpa using hi), List.getElem?_set_self hi]
theorem wayE_und {b : Book} {text : List Int} {pip : Int} {es : List (PV × PV × Nat)} (h : MapOk keyS (WayE b text pip) es) (clock j : Nat) : (VObj.map es clock).und j := fun e he => by
  obtain ⟨a, ha, hv⟩ := h e he
  rw [ha, hv]
  exact ⟨rfl, rfl⟩
theorem foldT_snoc (W : Int → Found) (k : Nat) (t : Int) : ∀ (l : List Int) (best : Found), foldT W k (l ++ [t]) best = updW (W t) k t (foldT W k l best)
  | [], _ => rfl
  | s :: l, best => by rw [List.cons_append, foldT, foldT, foldT_snoc W k t l]
theorem take_snoc {l : List Int} {i : Nat} {t : Int} (h : l[i]? = some t) : l.take (i + 1) = l.take i ++ [t] := by
  rw [List.take_add_one, h]; rfl
section
variable {b : Book} {a : Arr 10 Bool} {text : List Int} {pip : Int} {bb tb pb kb fb mi : Nat}
theorem wayU {M X : VM} {n j : Nat} (hn : M.length = n) (hu : ∀ o ∈ M, o.und n) {es : List (PV × PV × Nat)} (hes : MapOk keyS (WayE b text pip) es) (clock : Nat) (hj : n ≤ j) (hX : ∀ o ∈ X, o.und j) : ∀ o ∈ M.set mi (.map es clock) ++ X, o.und j := by
  intro o ho
  rcases List.mem_append.1 ho with ho | ho
  · exact set_und (fun o ho => obj_mono hj (hu o ho)) (wayE_und hes clock j) o ho
  · exact hX o ho
theorem cutX {k j : Nat} {fr : VFr} {l : List (Nat × PV)} {N X ext : VM} (hl : (N ++ X).length = j) (hk : k ≤ j) (hu : ∀ o ∈ N ++ X, o.und j) (hs : ∀ p ∈ l, (fr p.1).le p.2 ∧ p.2.und j = true) : Cut k fr (N ++ (X ++ ext)) l (N ++ X) := by
  rw [← List.append_assoc]; exact cut_pre' hl hk hu hs
abbrev zero3 : VObj := .cells [.int .i64 0, .int .i64 0, .int .i64 0]
set_option maxHeartbeats 3200000 in
set_option maxRecDepth 20000 in
theorem vc_ways (hE : E.env.fn = G) (o : BookOk b) (htl : text.length ≤ 8) (hp0 : 0 ≤ pip) (hp1 : pip ≤ 100000000) (hall : ∀ i, i < b.Pieces.length → a.l.getD i false = true) : ∀ (r p : Nat), text.length - p = r → p ≤ text.length → ∀ (t : Int) (M : VM) (K : PV → VM → Prop), 0 ≤ t → t ≤ 200000000 → WayB b a text pip bb tb pb kb fb mi M → (∀ o ∈ M, o.und M.length) →
    (∃ es clock, M[mi]? = some (.map es clock) ∧ MapOk keyS (WayE b text pip) es) →
    (∀ es clock ext, MapOk keyS (WayE b text pip) es → K (encW (waysR b text pip p t)) (M.set mi (.map es clock) ++ ext)) →
    VC E false (waysC kb tb pb bb fb) [keyS (p, t)] M K := by
  intro r
  induction r using Nat.strongRecOn with
  | _ r ih =>
    intro p hr hp t M K ht0 ht1 hB hu ⟨es, clock, hm, hes⟩ hK
    refine VC.func (A := F111) (by rw [hE]; rfl) (by simp [F111]) ?_
    have lb := len_hr hB.hb
    have lt := len_hr hB.ht
    have lp := len_hr hB.hp
    have lk := len_hr hB.hk
    have lf := len_hr hB.hf
    have lm := len_hr hm
    have h16 : (encL a.l).length = 10 := by rw [encL_length, a.h]; rfl
    have good := goodV_cons (v_within hE) (goodV_cons (v_least hE) goodV_nil)
    have hkey : ∀ (x y : Nat × Int), keyEqV (.agg [.int, .int]) (keyS x) (keyS y) = some (decide (x = y)) := key_pair
    have hk0 : keyOkV (.agg [.int, .int]) (.agg [.int .i64 (p : Int), .int .i64 t]) = true := by unfold keyOkV; rw [hkey (p, t) (p, t)]; simp
    have hMs : M.set mi (.map es clock) = M := set_get_same hm
    have ha10 : a.l.length = 10 := a.h
    have p2 := o.p2
    have a0 := o.a0
    have a1 := o.a1
    have a2 := o.a2
    generalize hn : M.length = n at *
    unfold F111
    rcases find_good hkey (p, t) es 0 hes with ⟨hf0, hno⟩ | ⟨i, v, hf0, hv⟩
    · have hz : ∀ l : List VObj, (M ++ l).length = n + l.length := fun l => by simp [hn]
      refine VW.seq (VW.run good [] ?_); simp (implicitDefEqProofs := false) [enc_list, hn]
      refine VW.seq (VW.run good [] ?_); simp (implicitDefEqProofs := false) [enc_list, hn, get_hr hB.hk, get_hr hm, get_pre hn, get_pre0 hn, set_pre hn, mapEsV, hk0, hf0, lookResV, spliceV, PV.ofV]
      refine VW.seq (VW.run good [] ?_); simp (implicitDefEqProofs := false) [enc_list, hn, get_pre hn, get_pre0 hn, set_pre hn, spliceV]
      have w1 : IntKind.i64.wrap (pip - t) = pip - t := wrap64 (by omega) (by omega)
      obtain ⟨W0, hW0⟩ : ∃ W0, baseW b text pip p t = W0 := ⟨_, rfl⟩
      have hss := waysR_step o text pip p t
      rw [hW0] at hss
      have hu4 : ∀ w : Found, ∀ o ∈ M ++ [VObj.cells [.int .i64 p, .int .i64 t], zero3, zero3, celW w], o.und (n + 4) := fun w => by
        have := wayU (X := [VObj.cells [.int .i64 p, .int .i64 t], zero3, zero3, celW w]) (mi := mi) hn hu hes clock (j := n + 4) (by omega) (by simp (implicitDefEqProofs := false))
        rwa [hMs] at this
      refine VW.seq_cut [(1, .ptr kb 1 0), (2, .ptr tb 1 0), (3, .ptr pb 1 0), (4, .ptr bb 16 0), (5, .ptr fb 1 0), (6, .ptr n 2 0), (7, .ptr (n + 1) 3 0), (10, .ptr (n + 3) 3 0)] (M ++ [.cells [.int .i64 p, .int .i64 t], zero3, zero3, celW W0]) (VW.run good [] ?_) ?_
      · have hcut4 : ∀ (fr : VFr) (w : Found), (∀ x ∈ [(1, PV.ptr kb 1 0), (2, .ptr tb 1 0), (3, .ptr pb 1 0), (4, .ptr bb 16 0), (5, .ptr fb 1 0), (6, .ptr n 2 0), (7, .ptr (n + 1) 3 0), (10, .ptr (n + 3) 3 0)], (fr x.1).le x.2 ∧ x.2.und (n + 4) = true) → Cut n fr (M ++ ([VObj.cells [.int .i64 p, .int .i64 t], zero3, zero3, celW w] ++ [])) [(1, .ptr kb 1 0), (2, .ptr tb 1 0), (3, .ptr pb 1 0), (4, .ptr bb 16 0), (5, .ptr fb 1 0), (6, .ptr n 2 0), (7, .ptr (n + 1) 3 0), (10, .ptr (n + 3) 3 0)] (M ++ [.cells [.int .i64 p, .int .i64 t], zero3, zero3, celW w]) := fun fr w hs => cutX (j := n + 4) (by simp [hn]) (by omega) (hu4 w) hs
        unfold baseW at hW0
        by_cases hpl : p = text.length
        · have hpl' : ((p : Int) = (text.length : Int)) = True := eq_true (by omega)
          have hpl2 : (p = text.length) = True := eq_true hpl
          rw [decide_eq_true hpl, Bool.true_and] at hW0
          cases hwi : wi (pip - t) b.Rest.Low b.Rest.High
          · rw [hwi, if_neg (by simp)] at hW0
            subst hW0
            simp (implicitDefEqProofs := false) [enc_list, get_hr hB.ht, get_hr hB.hp, get_hr hB.hb, get_pre hn, get_pre0 hn, set_pre hn, hpl2, hpl', w1, hwi, spliceV, ha10]
            refine hcut4 _ ⟨never, 0, 0⟩ ?_
            simp (implicitDefEqProofs := false)
            omega
          · rw [hwi, if_pos rfl] at hW0
            subst hW0
            simp (implicitDefEqProofs := false) [enc_list, get_hr hB.ht, get_hr hB.hp, get_hr hB.hb, get_pre hn, get_pre0 hn, set_pre hn, hpl2, hpl', w1, hwi, spliceV, ha10]
            refine hcut4 _ ⟨0, 0, 0⟩ ?_
            simp (implicitDefEqProofs := false)
            omega
        · have hpl' : ¬ (p : Int) = (text.length : Int) := by omega
          rw [decide_eq_false hpl, Bool.false_and, if_neg (by simp)] at hW0
          subst hW0
          simp (implicitDefEqProofs := false) [enc_list, get_hr hB.ht, get_hr hB.hp, get_hr hB.hb, get_pre hn, get_pre0 hn, set_pre hn, hpl, hpl', spliceV]
          exact hcut4 _ _ (by simp (implicitDefEqProofs := false); omega)
      refine VW.seq (VW.seq (VW.run good [] ?_))
      simp (implicitDefEqProofs := false) [enc_list, get_hr hB.ht, get_hr hB.hp, get_hr hB.hb, get_pre hn, get_pre0 hn, h16, take_bools]
      unfold VCo
      refine vc_next hE rfl ?_
      have hl4 : ∀ x y z w : VObj, (M ++ [x, y, z, w]).length = n + 4 := fun x y z w => by simp [hn]
      rw [hl4]
      simp (implicitDefEqProofs := false) [enc_list]
      have und7 : ∀ j, n ≤ j → ∀ es clock (w : Found), MapOk keyS (WayE b text pip) es → ∀ o ∈ M.set mi (.map es clock) ++ [.cells [.int .i64 p, .int .i64 t], zero3, zero3, celW w, kbl b a.l, .cells [enc text], .cells [.int .i64 p]], o.und j := fun j hj es clock w hes =>
        wayU hn hu hes clock hj (by simp (implicitDefEqProofs := false) [enc_list])
      have hm7 : ∀ es clock (w : Found), (M.set mi (.map es clock) ++ [.cells [.int .i64 p, .int .i64 t], zero3, zero3, celW w, kbl b a.l, .cells [enc text], .cells [.int .i64 p]]).length = n + 7 := fun es clock w => by simp [hn]
      refine .ofCut (l := [(1, .ptr kb 1 0), (2, .ptr tb 1 0), (3, .ptr pb 1 0), (4, .ptr bb 16 0), (5, .ptr fb 1 0), (6, .ptr n 2 0), (7, .ptr (n + 1) 3 0), (10, .ptr (n + 3) 3 0), (48, .func 109 [] [.ptr (n + 4) 16 0, .ptr (n + 6) 1 0, .ptr (n + 5) 1 0])]) (M := M ++ [.cells [.int .i64 p, .int .i64 t], zero3, zero3, celW W0, kbl b a.l, .cells [enc text], .cells [.int .i64 p]]) ?_ ?_
      · have h1 := und7 (n + 7) (by omega) es clock W0 hes
        rw [hMs] at h1
        exact cutX (X := [.cells [.int .i64 p, .int .i64 t], zero3, zero3, celW W0, kbl b a.l, .cells [enc text], .cells [.int .i64 p]]) (ext := []) (j := n + 7) (by simp [hn]) (by omega) h1 (by simp (implicitDefEqProofs := false); omega)
      refine VW.block ?_
      obtain ⟨Wn, hWn⟩ : ∃ Wn : Nat → Int → Found, ∀ k s, Wn k s = waysR b text pip (p + (pieceN b k).Words.length) (s + (pieceN b k).Long) := ⟨_, fun _ _ => rfl⟩
      obtain ⟨Sn, hSn⟩ : ∃ Sn : Nat → List Int, ∀ k, Sn k = startsL b (pieceN b k) (t + b.Pause.Low) (min (t + b.Pause.High) pip) := ⟨_, fun _ => rfl⟩
      have hss2 : waysR b text pip p t = foldK b text p Wn Sn b.Pieces.length W0 := by
        rw [hss, show Wn = _ from funext fun k => funext fun s => hWn k s, show Sn = _ from funext hSn]
      obtain ⟨J, hJ⟩ : ∃ J : Nat → VM → Prop, ∀ i pre, J i pre ↔ ∃ es clock, pre = M.set mi (.map es clock) ++ [.cells [.int .i64 p, .int .i64 t], zero3, zero3, celW (foldK b text p Wn Sn i W0), kbl b a.l, .cells [enc text], .cells [.int .i64 p]] ∧ MapOk keyS (WayE b text pip) es := ⟨_, fun _ _ => Iff.rfl⟩
      refine VW.rangeNext (bb := n + 4) (ab := n + 6) (tb := n + 5) (n0 := n + 7) (p := p) (b := b) (a := a) (text := text) hE J (fun _ _ => False) (by simp) o (by omega) hp rfl (mkF_und ?_) (by simp [hn]) ((hJ _ _).2 ⟨es, clock, by rw [hMs]; rfl, hes⟩) ?_ ?_ ?_ ?_ ?_
      · simp (implicitDefEqProofs := false)
        omega
      · intro i pre hj
        obtain ⟨es', clock', rfl, h1⟩ := (hJ _ _).1 hj
        have hN : (M.set mi (.map es' clock')).length = n := by simp [hn]
        refine ⟨hm7 _ _ _, ?_, ?_, ?_, und7 _ (by omega) _ _ _ h1⟩
        · rw [get_pre hN]; rfl
        · rw [get_pre hN]; rfl
        · rw [get_pre hN]; rfl
      · intro i pre hi hj hgo
        obtain ⟨es', clock', rfl, h1⟩ := (hJ _ _).1 hj
        refine (hJ _ _).2 ⟨es', clock', ?_, h1⟩
        have hf : fitsB (pieceN b i) text p = false := by
          have hg : goOn b (fun i => a.l.getD i false) text p i = (a.l.getD i false && fitsB (pieceN b i) text p) := rfl
          rw [hg, hall i hi, Bool.true_and] at hgo
          exact hgo
        rw [foldK, if_neg (by rw [show b.Pieces.getD i ⟨[], 0, 0, 0⟩ = pieceN b i from rfl, hf]; simp)]
      · intro i pre hi hj hgo c6 Lr Lb hLb hc6
        obtain ⟨es', clock', rfl, h1⟩ := (hJ _ _).1 hj
        refine VW.run good [] ?_; simp (implicitDefEqProofs := false) [enc_list, setParamsV, hn, spliceV]
        have hN : (M.set mi (.map es' clock')).length = n := by simp [hn]
        have hBN := hB.set es' clock' []
        rw [List.append_nil] at hBN
        have hmN : (M.set mi (.map es' clock'))[mi]? = some (.map es' clock') := List.getElem?_set_self (by omega)
        have hLu : ∀ j, n + 7 ≤ j → Lb.und j := fun j hj => obj_mono hj (hLb _ (mkF_und (by simp (implicitDefEqProofs := false); omega)))
        have hBs := fun es clock ext => hB.set es clock ext
        have hss' : ∀ es clock x, (M.set mi (.map es clock)).set mi x = M.set mi x := fun es clock x => by rw [List.set_set]
        have hgp := get_Piece b.Pieces i hi
        have hpn : pieceN b i = b.Pieces[i] := by unfold pieceN; rw [List.getD_eq_getElem?_getD, List.getElem?_eq_getElem hi]; rfl
        have po := pieceN_ok o hi
        have hfit : fitsB (pieceN b i) text p = true := by
          have hg : goOn b (fun i => a.l.getD i false) text p i = (a.l.getD i false && fitsB (pieceN b i) text p) := rfl
          rw [hg, hall i hi, Bool.true_and] at hgo
          exact hgo
        have hfl := fits_le hfit
        have hWi := hWn i
        have hSi := hSn i
        have hfK : foldK b text p Wn Sn (i + 1) W0 = foldT (Wn i) i (Sn i) (foldK b text p Wn Sn i W0) := by
          rw [foldK, if_pos (show fitsB (b.Pieces.getD i ⟨[], 0, 0, 0⟩) text p = true from hfit)]
        have u1 : IntKind.i64.wrap (t + b.Pause.Low) = t + b.Pause.Low := wrap64 (by omega) (by omega)
        have u2 : IntKind.i64.wrap (t + b.Pause.High) = t + b.Pause.High := wrap64 (by omega) (by omega)
        have u3 : leastF (t + b.Pause.High) pip = some (min (t + b.Pause.High) pip) := if_pos (by omega)
        have hmin : min (t + b.Pause.High) pip ≤ pip ∧ 0 ≤ min (t + b.Pause.High) pip := by rw [Int.min_def]; split <;> omega
        have ha10 : a.l.length = 10 := a.h
        refine VW.block (VW.seq ?_)
        refine VW.run good [] ?_; simp (implicitDefEqProofs := false) [enc_list, get_hr hBN.hp, get_hr hBN.hb, get_pre hN, get_pre0 hN, ha10, take_bools, u1, u2, u3, spc_capt]
        unfold VCo
        obtain ⟨lo, hlo⟩ : ∃ lo, t + b.Pause.Low = lo := ⟨_, rfl⟩
        obtain ⟨hi2, hhi⟩ : ∃ hi2, min (t + b.Pause.High) pip = hi2 := ⟨_, rfl⟩
        rw [hlo, hhi] at hSi
        rw [hlo, hhi]
        rw [hhi] at hmin
        refine vc_starts hE rfl ?_
        have hl10 : ∀ x1 x2 x3 x4 x5 x6 x7 x8 x9 x10 : VObj, (M.set mi (.map es' clock') ++ [x1, x2, x3, x4, x5, x6, x7, x8, x9, x10]).length = n + 10 := fun x1 x2 x3 x4 x5 x6 x7 x8 x9 x10 => by simp [hn]
        rw [hl10]
        simp (implicitDefEqProofs := false) [enc_list]
        obtain ⟨B0, hB0⟩ : ∃ B0, foldK b text p Wn Sn i W0 = B0 := ⟨_, rfl⟩
        rw [hB0] at hfK ⊢
        obtain ⟨X, hX⟩ : ∃ X : Found → Int → VM, ∀ w u, X w u = [.cells [.int .i64 p, .int .i64 t], zero3, zero3, celW w, kbl b a.l, .cells [enc text], .cells [.int .i64 p], Lb, .cells c6, .cells [.int .i64 i], kbl b a.l, .cells [.int .i64 i], .cells [.int .i64 u], .cells [.int .i64 hi2]] := ⟨_, fun _ _ => rfl⟩
        have und14 : ∀ j, n + 7 ≤ j → ∀ es clock (w : Found) u, MapOk keyS (WayE b text pip) es → ∀ o ∈ M.set mi (.map es clock) ++ X w u, o.und j := fun j hj es clock w u hes => by
          refine wayU hn hu hes clock (by omega) ?_
          rw [hX]
          have := hLu j hj
          have h6 := hc6 j
          intro o ho
          simp only [List.mem_cons, List.not_mem_nil, or_false] at ho
          rcases ho with rfl | rfl | rfl | rfl | rfl | rfl | rfl | rfl | rfl | rfl | rfl | rfl | rfl | rfl <;> first | exact this | exact h6 | simp (implicitDefEqProofs := false) [enc_list]
        have hm14 : ∀ es clock (w : Found) u, (M.set mi (.map es clock) ++ X w u).length = n + 14 := fun es clock w u => by rw [hX]; simp [hn]
        refine .ofCut (l := [(4, .ptr bb 16 0), (5, .ptr fb 1 0), (6, .ptr n 2 0), (10, .ptr (n + 3) 3 0), (11, .ptr (n + 9) 1 0), (68, .func 113 [] [.ptr (n + 10) 16 0, .ptr (n + 11) 1 0, .ptr (n + 12) 1 0, .ptr (n + 13) 1 0])]) (M := M.set mi (.map es' clock') ++ X B0 lo) ?_ ?_
        · have h2 := und14 (n + 14) (by omega) es' clock' B0 lo h1
          have hk14 : n + 7 + 2 ≤ n + 14 := by omega
          have hmm : M.set mi (.map es' clock') ++ X B0 lo = M.set mi (.map es' clock') ++ (X B0 lo ++ []) := by rw [List.append_nil]
          have hcut := fun (fr : VFr) (l : List (Nat × PV)) (hs : ∀ p ∈ l, (fr p.1).le p.2 ∧ p.2.und (n + 14) = true) => cutX (ext := []) (hm14 es' clock' B0 lo) hk14 h2 hs
          simp only [hX] at hcut
          rw [hX]
          refine hcut _ _ ?_
          simp (implicitDefEqProofs := false)
          omega
        refine VW.block ?_
        obtain ⟨J2, hJ2⟩ : ∃ J2 : Nat → VM → Prop, ∀ j pre, J2 j pre ↔ ∃ es clock, pre = M.set mi (.map es clock) ++ X (foldT (Wn i) i ((Sn i).take j) B0) (max 0 lo) ∧ MapOk keyS (WayE b text pip) es := ⟨_, fun _ _ => Iff.rfl⟩
        refine VW.rangeStarts (bb := n + 10) (kb := n + 11) (fb := n + 12) (lb := n + 13) (n0 := n + 14) (k := i) (b := b) (a := a) (u := lo) (v := hi2) hE J2 (fun _ _ => False) (by simp) o hi (by omega) (by omega) (by omega) rfl (mkF_und ?_) (hm14 _ _ _ _) ?_ ?_ ?_ ?_ ?_ ?_ ?_ ?_
        · simp (implicitDefEqProofs := false)
          omega
        · rw [hX, get_pre hN]; rfl
        · rw [hX, get_pre hN]; rfl
        · rw [hX, get_pre hN]; rfl
        · refine (hJ2 _ _).2 ⟨es', clock', ?_, h1⟩
          rw [hX, hX, set_pre hN]; rfl
        · intro j pre hj
          obtain ⟨es2, clock2, rfl, h2⟩ := (hJ2 _ _).1 hj
          have hN2 : (M.set mi (.map es2 clock2)).length = n := by simp [hn]
          refine ⟨hm14 _ _ _ _, ?_, ?_, und14 _ (by omega) _ _ _ _ h2⟩
          · rw [hX, get_pre hN2]; rfl
          · rw [hX, get_pre hN2]; rfl
        · intro j s pre hjs hsv hs0 hj c6' Lr' Lb' hLb' hc6'
          obtain ⟨es2, clock2, rfl, h2⟩ := (hJ2 _ _).1 hj
          rw [← hSi] at hjs
          have hN2 : (M.set mi (.map es2 clock2)).length = n := by simp [hn]
          have hBN2 := hB.set es2 clock2 []
          rw [List.append_nil] at hBN2
          have hmN2 : (M.set mi (.map es2 clock2))[mi]? = some (.map es2 clock2) := List.getElem?_set_self (by omega)
          have hsh : ∀ l x, (M.set mi (.map es2 clock2) ++ l).set mi x = M.set mi x ++ l := fun l x => by rw [set_hr (by omega), List.set_set]
          have htk := take_snoc hjs
          obtain ⟨B1, hB1⟩ : ∃ B1, foldT (Wn i) i ((Sn i).take j) B0 = B1 := ⟨_, rfl⟩
          have hB2 : foldT (Wn i) i ((Sn i).take (j + 1)) B0 = updW (Wn i s) i s B1 := by rw [htk, foldT_snoc, hB1]
          rw [hB1]
          rw [hpn] at hWi hfl po
          generalize b.Pieces[i] = x at *
          have pw1 := po.w1
          have pw2 := po.w2
          have pl1 := po.l1
          have pl2 := po.l2
          have pt2 := po.t2
          obtain ⟨q, hq⟩ : ∃ q, p + x.Words.length = q := ⟨_, rfl⟩
          rw [hq] at hWi hfl
          have v2 : IntKind.i64.wrap ((p : Int) + x.Words.length) = (q : Int) := by rw [wrap64 (by omega) (by omega)]; omega
          have v3 : IntKind.i64.wrap (s + x.Long) = s + x.Long := wrap64 (by omega) (by omega)
          have hi' : (i : Int) < b.Pieces.length := by omega
          simp only [hX]
          refine VW.run good [] ?_; simp (implicitDefEqProofs := false) [enc_list, setParamsV]
          refine VW.block (VW.seq ?_)
          refine VW.run good [] ?_; simp (implicitDefEqProofs := false) [enc_list, get_hr hBN2.hf, get_hr hBN2.hb, get_pre hN2, get_pre0 hN2, hi, hi', hgp, v2, v3, ha10, spc_capt, spliceV]
          unfold VCo
          obtain ⟨Y, hY⟩ : ∃ Y : Found → VM, ∀ w, Y w = [.cells [.int .i64 p, .int .i64 t], zero3, zero3, celW w, kbl b a.l, .cells [.lst false text.length 1 (encL text)], .cells [.int .i64 p], Lb, .cells c6, .cells [.int .i64 i], kbl b a.l, .cells [.int .i64 i], .cells [.int .i64 (max 0 lo)], .cells [.int .i64 hi2], Lb', .cells c6'] := ⟨_, fun _ => rfl⟩
          rw [← hY]
          have hl16 : ∀ es clock w, (M.set mi (.map es clock) ++ Y w).length = n + 16 := fun es clock w => by rw [hY]; simp [hn]
          have hLb2 : Lb'.und (n + 16) := hLb' _ (mkF_und (by simp (implicitDefEqProofs := false); omega))
          have und16 : ∀ es clock w, MapOk keyS (WayE b text pip) es → ∀ o ∈ M.set mi (.map es clock) ++ Y w, o.und (n + 16) := fun es clock w hes => by
            refine wayU hn hu hes clock (by omega) ?_
            rw [hY]
            have k1 := hLu (n + 16) (by omega)
            have k2 := hc6 (n + 16)
            have k3 := hc6' (n + 16)
            intro o ho
            simp only [List.mem_cons, List.not_mem_nil, or_false] at ho
            rcases ho with rfl | rfl | rfl | rfl | rfl | rfl | rfl | rfl | rfl | rfl | rfl | rfl | rfl | rfl | rfl | rfl <;> first | exact k1 | exact k2 | exact k3 | exact hLb2 | simp (implicitDefEqProofs := false) [enc_list]
          have wok := ways_ok o htl pip _ q (s + x.Long) rfl hfl (by omega)
          rw [← hWi s] at wok
          have wnn := wok.nn
          have w9 := wok.le9
          have v4 : IntKind.i64.wrap ((Wn i s).pieces + 1) = (Wn i s).pieces + 1 := wrap64 (by omega) (by omega)
          refine ih (text.length - q) (by omega) q rfl hfl (s + x.Long) _ _ (by omega) (by omega) (hBs _ _ _) (by rw [hl16]; exact und16 _ _ _ h2) ⟨es2, clock2, get_hr hmN2 _, h2⟩ ?_
          intro es3 clock3 ext h3
          rw [hsh, ← hWi s]
          have hN3 : (M.set mi (.map es3 clock3)).length = n := by simp [hn]
          obtain ⟨LA, hLA⟩ : ∃ LA, n + 16 + ext.length = LA := ⟨_, rfl⟩
          have hAl : (M.set mi (.map es3 clock3) ++ Y B1 ++ ext).length = LA := by rw [List.length_append, hl16, hLA]
          have hA10 : (M.set mi (.map es3 clock3) ++ Y B1 ++ ext)[n + 3]? = some (celW B1) := by rw [List.append_assoc, get_pre hN3, hY]; rfl
          have hA11 : (M.set mi (.map es3 clock3) ++ Y B1 ++ ext)[n + 9]? = some (.cells [.int .i64 i]) := by rw [List.append_assoc, get_pre hN3, hY]; rfl
          have hS10 : ∀ w, (M.set mi (.map es3 clock3) ++ Y B1 ++ ext).set (n + 3) (celW w) = M.set mi (.map es3 clock3) ++ Y w ++ ext := fun w => by rw [List.append_assoc, set_pre hN3, List.append_assoc, hY, hY]; rfl
          have hfin : ∀ (w : Found) (Z : VM), updW (Wn i s) i s B1 = w → ∃ pre2, (∃ x', M.set mi (.map es3 clock3) ++ Y w ++ ext ++ Z = pre2 ++ Lb' :: .cells c6' :: x') ∧ pre2.length = n + 14 ∧ J2 (j + 1) pre2 := fun w Z hw =>
            ⟨M.set mi (.map es3 clock3) ++ X w (max 0 lo), ⟨ext ++ Z, by rw [hX, hY]; simp [enc_list]⟩, hm14 _ _ _ _, (hJ2 _ _).2 ⟨es3, clock3, by rw [hB2, hw], h3⟩⟩
          generalize Wn i s = w at *
          generalize hA : M.set mi (.map es3 clock3) ++ Y B1 ++ ext = A at *
          have hL3 : n + 3 < LA := by omega
          have hset : ∀ l x, (A ++ l).set (n + 3) x = A.set (n + 3) x ++ l := fun l x => set_hr (by omega) l x
          simp (implicitDefEqProofs := false) [enc_list, hAl, get_pre0 hAl, set_pre0 hAl, spliceV]
          by_cases hlt : w.pieces + 1 < B1.pieces
          · refine VW.run good [] ?_; simp (implicitDefEqProofs := false) [enc_list, hAl, get_pre0 hAl, set_pre0 hAl, get_hr hA10, get_hr hA11, hset, spliceV, v4, hlt]
            obtain ⟨pre2, g1, g2, g3⟩ := hfin ⟨w.pieces + 1, i, s⟩ [celW w] (if_pos hlt)
            refine ⟨pre2, ?_, g2, rfl, g3⟩
            have h10 := hS10 ⟨w.pieces + 1, i, s⟩
            simp only [celW] at h10 g1
            rw [h10]
            exact g1
          · refine VW.run good [] ?_; simp (implicitDefEqProofs := false) [enc_list, hAl, get_pre0 hAl, set_pre0 hAl, get_hr hA10, get_hr hA11, hset, spliceV, v4, hlt]
            obtain ⟨pre2, g1, g2, g3⟩ := hfin B1 [celW w] (if_neg hlt)
            refine ⟨pre2, ?_, g2, rfl, g3⟩
            rw [hA] at g1
            exact g1
        · intro pre L ext hj
          obtain ⟨es2, clock2, rfl, h2⟩ := (hJ2 _ _).1 hj
          have hN2 : (M.set mi (.map es2 clock2)).length = n := by simp [hn]
          rw [← hSi, List.take_length, ← hfK, hX]
          refine ⟨M.set mi (.map es2 clock2) ++ [.cells [.int .i64 p, .int .i64 t], zero3, zero3, celW (foldK b text p Wn Sn (i + 1) W0), kbl b a.l, .cells [enc text], .cells [.int .i64 p]], ⟨_, by simp; rfl⟩, by simp [hn], rfl, (hJ _ _).2 ⟨es2, clock2, rfl, h2⟩⟩
        · intro e pre L ext hf; exact hf.elim
      · intro pre L ext hj
        obtain ⟨es', clock', rfl, h1⟩ := (hJ _ _).1 hj
        rw [← hss2]
        obtain ⟨f, es2, clock2, u1, u2, u3, _⟩ := upd_has hkey clock' h1 (p, t) (v := encW (waysR b text pip p t)) rfl
        have hN : (M.set mi (.map es' clock')).length = n := by simp [hn]
        have hBN := hB.set es' clock' []
        rw [List.append_nil] at hBN
        have hmN : (M.set mi (.map es' clock'))[mi]? = some (.map es' clock') := List.getElem?_set_self (by omega)
        have hsh : ∀ l x, (M.set mi (.map es' clock') ++ l).set mi x = M.set mi x ++ l := fun l x => by rw [set_hr (by omega), List.set_set]
        have hK' := hK es2 clock2 ([.cells [.int .i64 p, .int .i64 t], celW (waysR b text pip p t), zero3, celW (waysR b text pip p t), kbl b a.l, .cells [enc text], .cells [.int .i64 p]] ++ .loop L :: ext) u3
        have hN2 : (M.set mi (.map es2 clock2)).length = n := by simp [hn]
        generalize waysR b text pip p t = w at *
        generalize M.set mi (.map es' clock') = N at *
        simp (implicitDefEqProofs := false) [enc_list]
        refine VW.run good [] ?_; simp (implicitDefEqProofs := false) [enc_list, get_hr hBN.hk, get_hr hmN, get_pre hN, get_pre0 hN, get_pre hN2, get_pre0 hN2, set_pre hN2, mapEsV, hk0, u1, u2, hsh, spliceV]
        simpa [enc_list] using hK'
      · intro e pre L ext hf; exact hf.elim
    · cases hv
      have hK' := hK es clock [.cells [.int .i64 p, .int .i64 t], celW (waysR b text pip p t), celW (waysR b text pip p t)] hes
      rw [hMs] at hK'
      refine VW.run good [] ?_
      simp (implicitDefEqProofs := false) [enc_list, hn, get_hr hB.hk, get_hr hm, get_pre hn, get_pre0 hn, set_pre hn, mapEsV, hk0, hf0, lookResV, spliceV, PV.ofV]
      exact hK'
end
end Go.RS.DC

/- Walks: the program (15): the plan that is told. -/
namespace Go.RS.DC
open Go Go.RS
open Go.RS.Enc (enc dec)
variable {E : VEnv}
theorem lateT_snoc (W : Int → Found) (t : Int) : ∀ (l : List Int) (L : Int), lateT W (l ++ [t]) L = if (W t).pieces = never then lateT W l L else max (lateT W l L) t
  | [], _ => rfl
  | s :: l, L => by rw [List.cons_append, lateT, lateT, lateT_snoc W t l]
theorem vc_on (hE : E.env.fn = G) {g : Bool} {M : VM} {b : Book} {a : Arr 10 Bool} {text : List Int} {pip : Int} {K : PV → VM → Prop} (hg : g = false)
    (hk : K (waysC (M.length + 4) (M.length + 1) (M.length + 2) M.length (M.length + 5)) (M ++ [kbl b a.l, .cells [enc text], .cells [.int .i64 pip], .map [] 0, .cells [.map (M.length + 3)], .cells [waysC (M.length + 4) (M.length + 1) (M.length + 2) M.length (M.length + 5)]])) :
    VC E g (.func 92 [] []) [.agg (enc b.Discs :: enc b.Pieces :: enc b.Pause.Low :: enc b.Pause.High :: enc b.Rest.Low :: enc b.Rest.High :: encL a.l), enc text, .int .i64 pip] M K := by
  subst hg
  refine VC.func (A := F92) (by rw [hE]; rfl) (by simp [F92]) ?_
  unfold F92
  refine VW.run goodV_nil [] ?_
  have h16 : (encL a.l).length = 10 := by rw [encL_length, a.h]; rfl
  simp (implicitDefEqProofs := false) [enc_list, h16, spliceV]
  exact hk
/-- What goes on to the end: the piece that is next, and how many there are. -/
def OutI (b : Book) (text : List Int) (pip : Int) (p : Nat) (x : Found) (m : Nat) : Prop :=
  m = 0 ∨ ((∃ e, StepP b text p e ⟨x.piece, x.at_⟩) ∧ x.at_ ≤ pip ∧ (waysR b text pip (p + (pieceAt b x.piece).Words.length) (x.at_ + (pieceAt b x.piece).Long)).pieces + 1 = m)
theorem best_out {b : Book} (o : BookOk b) {text : List Int} (ht : text.length ≤ 8) {from_ pip : Int} (h0 : 0 ≤ from_) (hl : ¬ lateR b text from_ pip < 0) : (bestR b text from_ pip).pieces = ((bestR b text from_ pip).pieces.toNat : Int) ∧ (bestR b text from_ pip).pieces ≤ 9 ∧ OutI b text pip 0 (bestR b text from_ pip) (bestR b text from_ pip).pieces.toNat := by
  have hfirst : ∀ (k : Nat) (s : Int), k < b.Pieces.length → fitsB (pieceN b k) text 0 = true → s ∈ startsL b (pieceN b k) from_ pip →
      s ≤ pip ∧ StepP b text 0 none ⟨k, s⟩ ∧ WayOk b text pip (pieceN b k).Words.length (s + (pieceN b k).Long) (firstW b text pip k s) := fun k s hk hf hs => by
    have po := pieceN_ok o hk
    obtain ⟨m1, m2, m3⟩ := (mem_startsL po _ _ _).1 hs
    have hmax : 0 ≤ max 0 from_ ∧ from_ ≤ max 0 from_ := ⟨Int.le_max_left _ _, Int.le_max_right _ _⟩
    have hle := fits_le hf
    have l1 := po.l1
    exact ⟨m2, ⟨by simp, by simpa using hk, by simp only [pieceAt_N]; exact hf, by simp only; omega, by simp only [pieceAt_N]; exact m3, trivial⟩, ways_ok o ht pip _ _ _ rfl (by omega) (by omega)⟩
  obtain ⟨K1, _⟩ := lateK_spec (b := b) (text := text) (W := firstW b text pip) (S := fun n => startsL b (pieceN b n) from_ pip) b.Pieces.length
  obtain ⟨F1, F2, F3⟩ := foldK_spec (b := b) (text := text) (p := 0) (W := firstW b text pip) (S := fun n => startsL b (pieceN b n) from_ pip) b.Pieces.length ⟨never, 0, 0⟩
  rcases K1 with K1 | ⟨k, t, k1, k2, k3, k4, k5⟩
  · exact absurd (show lateR b text from_ pip < 0 by unfold lateR; rw [K1]; decide) hl
  have hbk := F3 k t k1 k2 k3
  change (bestR b text from_ pip).pieces ≤ (firstW b text pip k t).pieces + 1 at hbk
  have h9 : (bestR b text from_ pip).pieces ≤ 9 := F2
  have hw := (hfirst k t k1 k2 k3).2.2.le9
  have hw0 := (hfirst k t k1 k2 k3).2.2.nn
  rcases F1 with F1 | ⟨k', t', e1, e2, e3, e4⟩
  · have hbr : bestR b text from_ pip = ⟨never, 0, 0⟩ := F1
    exfalso
    have hne : (firstW b text pip k t).pieces ≠ 9 := k4
    rw [hbr] at hbk
    simp only [never] at hbk
    -- nothing is better than nine; but a way of eight pieces says nine words
    have hlen : (firstW b text pip k t).pieces < 8 := by
      obtain ⟨_, s2, s3⟩ := hfirst k t k1 k2 k3
      obtain ⟨n, hn⟩ : ∃ n : Nat, (firstW b text pip k t).pieces = n := ⟨(firstW b text pip k t).pieces.toNat, by omega⟩
      have hle := fits_le k2
      have po := pieceN_ok o k1
      have w1 := po.w1
      have l1 := po.l1
      have c4 := s2.2.2.2.1
      simp only at c4
      obtain ⟨o1, o2⟩ := outF_cont o ht pip n (pieceN b k).Words.length (t + (pieceN b k).Long) (by omega) (by omega) hn (by omega)
      have := cont_len o o1 (by omega)
      rw [o2] at this
      omega
    omega
  · have hbr : bestR b text from_ pip = ⟨(firstW b text pip k' t').pieces + 1, k', t'⟩ := e4
    obtain ⟨d1, d2, d3⟩ := hfirst k' t' e1 e2 e3
    have nn := d3.nn
    rw [hbr]
    simp only
    refine ⟨by omega, by rw [hbr] at h9; exact h9, .inr ⟨⟨none, d2⟩, d1, ?_⟩⟩
    simp only [pieceAt_N, Nat.zero_add]
    show (firstW b text pip k' t').pieces + 1 = _
    omega
theorem out_next {b : Book} (o : BookOk b) {text : List Int} (ht : text.length ≤ 8) {pip : Int} {p : Nat} {x : Found} {m : Nat} (hm : m + 1 ≤ 9) (h : OutI b text pip p x (m + 1)) : ∃ k : Nat, x.piece = k ∧ k < b.Pieces.length ∧ 0 ≤ x.at_ ∧ x.at_ ≤ pip ∧ p + (pieceN b k).Words.length ≤ text.length ∧
    OutI b text pip (p + (pieceN b k).Words.length) (waysR b text pip (p + (pieceN b k).Words.length) (x.at_ + (pieceN b k).Long)) m := by
  rcases h with h | ⟨⟨e, h1⟩, h2, h3⟩
  · omega
  · obtain ⟨k, hk⟩ : ∃ k : Nat, x.piece = k := ⟨x.piece.toNat, by have := h1.1; simp only at this; omega⟩
    have q := step_piece o h1
    have c0 := h1.2.1
    have c4 := h1.2.2.2.1
    simp only at q c0 c4
    rw [hk, pieceAt_N] at h3 q
    rw [hk] at c0
    have l1 := q.1.l1
    refine ⟨k, hk, by omega, c4, h2, q.2, ?_⟩
    have w := ways_ok o ht pip _ (p + (pieceN b k).Words.length) (x.at_ + (pieceN b k).Long) rfl q.2 (by omega)
    cases m with
    | zero => exact .inl rfl
    | succ m =>
      obtain ⟨s1, s2, s3⟩ := w.step (by omega) (by omega)
      exact .inr ⟨⟨_, s1⟩, s2, by omega⟩
theorem forget_range : ∀ (G : VM) (A R : VM) (a : Nat), A.length = a → forgetL (List.range' a G.length) (A ++ (G ++ R)) = A ++ (List.replicate G.length .gone ++ R)
  | [], A, R, a, h => by simp
  | x :: G, A, R, a, h => by
    rw [List.length_cons, List.range'_succ, forgetL_cons]
    have e : (A ++ (x :: G ++ R)).set a .gone = (A ++ [.gone]) ++ (G ++ R) := by
      subst h
      rw [List.set_append_right _ _ (Nat.le_refl _)]
      simp
    have ih := forget_range G (A ++ [VObj.gone]) R (a + 1) (by simp [h])
    rw [e, ih, List.replicate_succ]
    simp
/-- What lies between is not looked at any more. -/
theorem cut_gone {k : Nat} {f : VFr} {l : List (Nat × PV)} {A G R : VM} {o : VObj} {a j : Nat} (hA : A.length = a) (hj : a + G.length + 1 = j) (hk : k ≤ j) (hu : ∀ x ∈ A, x.und j) (ho : o.und j) (hs : ∀ p ∈ l, (f p.1).le p.2 ∧ p.2.und j = true) : Cut k f (A ++ (G ++ o :: R)) l (A ++ (List.replicate G.length .gone ++ [o])) := by
  have e : A ++ (List.replicate G.length .gone ++ [o]) = (forgetL (List.range' a G.length) (A ++ (G ++ o :: R))).take j := by
    rw [forget_range G A (o :: R) a hA]
    have h1 : (A ++ (List.replicate G.length VObj.gone ++ [o])).length = j := by simp; omega
    rw [show A ++ (List.replicate G.length VObj.gone ++ o :: R) = (A ++ (List.replicate G.length .gone ++ [o])) ++ R by simp, ← h1, List.take_left]
  refine ⟨j, _, e, hk, by simp; omega, hs, ?_⟩
  rw [← e]
  intro x hx
  rcases List.mem_append.1 hx with hx | hx
  · exact hu x hx
  · rcases List.mem_append.1 hx with hx | hx
    · rw [List.eq_of_mem_replicate hx]; trivial
    · rw [List.mem_singleton] at hx; subst hx; exact ho
end Go.RS.DC

/- Walks: the program (16): the plan that is told. -/
namespace Go.RS.DC
open Go Go.RS
open Go.RS.Enc (enc dec)
variable {E : VEnv}
def planS (x : BookC) (t : List Int) (u pip : Int) : Option (T3 (List Start) Int Bool) :=
  if okB x.a = true ∧ (∀ i, i < x.a.Pieces.length → x.b.l.getD i false = true) ∧ t.length ≤ 8 ∧ 0 ≤ u ∧ u ≤ pip ∧ pip ≤ 100000000 then some (match planF x.a t u pip with | some r => ⟨r.1, r.2, true⟩ | none => ⟨[], 0, false⟩) else none
set_option maxHeartbeats 3200000 in
set_option maxRecDepth 20000 in
theorem v_plan (hE : E.env.fn = G) : Ok E 73 (s4 planS) := by
  refine ok4 fun x text u pip r hr => ?_
  unfold planS at hr
  split at hr
  · rename_i hc
    cases hr
    obtain ⟨ho, hall, htl, hu0, hup, hp1⟩ := hc
    have o := okB_ok ho
    obtain ⟨b, a⟩ := x
    simp only at ho hall o
    have good := goodV_cons (v_greatest hE) goodV_nil
    have h16 : (encL a.l).length = 10 := by rw [encL_length, a.h]; rfl
    have ha10 : a.l.length = 10 := a.h
    generalize hR : (match planF b text u pip with | some r => (⟨r.1, r.2, true⟩ : T3 (List Start) Int Bool) | none => ⟨[], 0, false⟩) = R
    rw [enc_BookC]
    refine VP.func (A := F73) (by rw [hE]; rfl) (by simp [F73]) ?_
    unfold F73
    refine VW.run good [] ?_
    simp (implicitDefEqProofs := false) [enc_list, spliceV, h16, ha10, take_bools, spc_capt]
    unfold VCo
    refine vc_on hE rfl ?_
    simp (implicitDefEqProofs := false) [enc_list, spliceV, h16, ha10, take_bools, spc_capt]
    unfold VCo
    refine vc_next (p := 0) hE rfl ?_
    simp (implicitDefEqProofs := false) [enc_list]
    obtain ⟨P, hP⟩ : ∃ P : List (PV × PV × Nat) → Nat → Found → Int → VM, ∀ es ck w lt, P es ck w lt = [kbl b a.l, .cells [.int .i64 u], .cells [.int .i64 pip], kbl b a.l, .cells [.lst false text.length 1 (encL text)], .cells [.int .i64 pip], .map es ck, .cells [.map 6], .cells [waysC 7 4 5 3 8], .cells [waysC 7 4 5 3 8], celW w, .cells [.int .i64 lt], kbl b a.l, .cells [.lst false text.length 1 (encL text)], .cells [.int .i64 0]] := ⟨_, fun _ _ _ _ => rfl⟩
    have undP : ∀ j, 15 ≤ j → ∀ es ck w lt, MapOk keyS (WayE b text pip) es → ∀ o ∈ P es ck w lt, o.und j := fun j hj es ck w lt hes o ho => by
      rw [hP] at ho
      have hm := wayE_und hes ck j
      simp only [List.mem_cons, List.not_mem_nil, or_false] at ho
      rcases ho with rfl | rfl | rfl | rfl | rfl | rfl | rfl | rfl | rfl | rfl | rfl | rfl | rfl | rfl | rfl <;> first | exact hm | (simp (implicitDefEqProofs := false) [enc_list]; done) | (simp (implicitDefEqProofs := false) [enc_list]; omega)
    have hlP : ∀ es ck w lt, (P es ck w lt).length = 15 := fun es ck w lt => by rw [hP]; rfl
    refine .ofCut (l := [(4, .ptr 0 16 0), (6, .ptr 1 1 0), (7, .ptr 2 1 0), (11, .ptr 9 1 0), (12, .ptr 10 3 0), (13, .ptr 11 1 0), (27, .func 109 [] [.ptr 12 16 0, .ptr 14 1 0, .ptr 13 1 0])]) (M := P [] 0 ⟨never, 0, 0⟩ (-1)) ?_ ?_
    · have h2 := undP 15 (by omega) [] 0 ⟨never, 0, 0⟩ (-1) mapOk_nil
      have hl := hlP [] 0 ⟨never, 0, 0⟩ (-1)
      have hcut := fun (fr : VFr) (l : List (Nat × PV)) (hs : ∀ p ∈ l, (fr p.1).le p.2 ∧ p.2.und 15 = true) => cutX (k := 0) (N := []) (X := P [] 0 ⟨never, 0, 0⟩ (-1)) (ext := []) (j := 15) hl (Nat.zero_le _) h2 hs
      simp only [hP] at hcut
      rw [hP]
      refine hcut _ _ ?_
      simp (implicitDefEqProofs := false)
    obtain ⟨W, hW⟩ : ∃ W, firstW b text pip = W := ⟨_, rfl⟩
    have hWs : ∀ k s, W k s = waysR b text pip (pieceN b k).Words.length (s + (pieceN b k).Long) := fun k s => by rw [← hW]; rfl
    obtain ⟨S, hS⟩ : ∃ S : Nat → List Int, (fun n => startsL b (pieceN b n) u pip) = S := ⟨_, rfl⟩
    have hSn : ∀ k, S k = startsL b (pieceN b k) u pip := fun k => by rw [← hS]
    obtain ⟨J, hJ⟩ : ∃ J : Nat → VM → Prop, ∀ i pre, J i pre ↔ ∃ es ck, pre = P es ck (foldK b text 0 W S i ⟨never, 0, 0⟩) (lateK b text W S i) ∧ MapOk keyS (WayE b text pip) es := ⟨_, fun _ _ => Iff.rfl⟩
    refine VW.rangeNext (bb := 12) (ab := 14) (tb := 13) (n0 := 15) (p := 0) (b := b) (a := a) (text := text) hE J (fun _ _ => False) (by simp) o (by omega) (Nat.zero_le _) rfl (mkF_und ?_) (hlP _ _ _ _) ((hJ _ _).2 ⟨[], 0, rfl, mapOk_nil⟩) ?_ ?_ ?_ ?_ ?_
    · simp (implicitDefEqProofs := false)
    · intro i pre hj
      obtain ⟨es, ck, rfl, h1⟩ := (hJ _ _).1 hj
      refine ⟨hlP _ _ _ _, ?_, ?_, ?_, undP _ (by omega) _ _ _ _ h1⟩
      · rw [hP]; rfl
      · rw [hP]; rfl
      · rw [hP]; rfl
    · intro i pre hi hj hgo
      obtain ⟨es, ck, rfl, h1⟩ := (hJ _ _).1 hj
      have hf : fitsB (pieceN b i) text 0 = false := by
        have hg : goOn b (fun i => a.l.getD i false) text 0 i = (a.l.getD i false && fitsB (pieceN b i) text 0) := rfl
        rw [hg, hall i hi, Bool.true_and] at hgo
        exact hgo
      have hn : ¬ fitsB (b.Pieces.getD i ⟨[], 0, 0, 0⟩) text 0 = true := by rw [show b.Pieces.getD i ⟨[], 0, 0, 0⟩ = pieceN b i from rfl, hf]; simp
      refine (hJ _ _).2 ⟨es, ck, ?_, h1⟩
      rw [foldK, if_neg hn, lateK, if_neg hn]
    · intro i pre hi hj hgo c6 Lr Lb hLb hc6
      obtain ⟨es, ck, rfl, h1⟩ := (hJ _ _).1 hj
      have hLu : ∀ j, 15 ≤ j → Lb.und j := fun j hj => obj_mono hj (hLb _ (mkF_und (by simp (implicitDefEqProofs := false))))
      have hgp := get_Piece b.Pieces i hi
      have hpn : pieceN b i = b.Pieces[i] := by unfold pieceN; rw [List.getD_eq_getElem?_getD, List.getElem?_eq_getElem hi]; rfl
      have po := pieceN_ok o hi
      have hfit : fitsB (pieceN b i) text 0 = true := by
        have hg : goOn b (fun i => a.l.getD i false) text 0 i = (a.l.getD i false && fitsB (pieceN b i) text 0) := rfl
        rw [hg, hall i hi, Bool.true_and] at hgo
        exact hgo
      have hfl := fits_le hfit
      have hWi := hWs i
      have hSi := hSn i
      have hyes : fitsB (b.Pieces.getD i ⟨[], 0, 0, 0⟩) text 0 = true := hfit
      have hfK : foldK b text 0 W S (i + 1) ⟨never, 0, 0⟩ = foldT (W i) i (S i) (foldK b text 0 W S i ⟨never, 0, 0⟩) := by rw [foldK, if_pos hyes]
      have hlK : lateK b text W S (i + 1) = lateT (W i) (S i) (lateK b text W S i) := by rw [lateK, if_pos hyes]
      have hB9 : (foldK b text 0 W S i ⟨never, 0, 0⟩).pieces ≤ 9 := (foldK_spec i ⟨never, 0, 0⟩).2.1
      obtain ⟨B0, hB0⟩ : ∃ B0, foldK b text 0 W S i ⟨never, 0, 0⟩ = B0 := ⟨_, rfl⟩
      obtain ⟨L0, hL0⟩ : ∃ L0, lateK b text W S i = L0 := ⟨_, rfl⟩
      rw [hB0] at hfK hB9 ⊢
      rw [hL0] at hlK ⊢
      rw [hP]
      refine VW.run good [] ?_; simp (implicitDefEqProofs := false) [enc_list, setParamsV, spliceV]
      refine VW.block (VW.seq ?_)
      refine VW.run good [] ?_; simp (implicitDefEqProofs := false) [enc_list, ha10, take_bools, spc_capt]
      unfold VCo
      refine vc_starts hE rfl ?_
      simp (implicitDefEqProofs := false) [enc_list]
      obtain ⟨X, hX⟩ : ∃ X : List (PV × PV × Nat) → Nat → Found → Int → Int → VM, ∀ es ck w lt v, X es ck w lt v = [kbl b a.l, .cells [.int .i64 u], .cells [.int .i64 pip], kbl b a.l, .cells [.lst false text.length 1 (encL text)], .cells [.int .i64 pip], .map es ck, .cells [.map 6], .cells [waysC 7 4 5 3 8], .cells [waysC 7 4 5 3 8], celW w, .cells [.int .i64 lt], kbl b a.l, .cells [.lst false text.length 1 (encL text)], .cells [.int .i64 0], Lb, .cells c6, .cells [.int .i64 i], kbl b a.l, .cells [.int .i64 i], .cells [.int .i64 v], .cells [.int .i64 pip]] := ⟨_, fun _ _ _ _ _ => rfl⟩
      have hXP : ∀ es ck w lt v, X es ck w lt v = P es ck w lt ++ [Lb, .cells c6, .cells [.int .i64 i], kbl b a.l, .cells [.int .i64 i], .cells [.int .i64 v], .cells [.int .i64 pip]] := fun es ck w lt v => by rw [hX, hP]; rfl
      have hlX : ∀ es ck w lt v, (X es ck w lt v).length = 22 := fun es ck w lt v => by rw [hX]; rfl
      have undX : ∀ j, 22 ≤ j → ∀ es ck w lt v, MapOk keyS (WayE b text pip) es → ∀ o ∈ X es ck w lt v, o.und j := fun j hj es ck w lt v hes o ho => by
        rw [hXP] at ho
        rcases List.mem_append.1 ho with ho | ho
        · exact undP j (by omega) _ _ _ _ hes o ho
        · have k1 := hLu j (by omega)
          have k2 := hc6 j
          simp only [List.mem_cons, List.not_mem_nil, or_false] at ho
          rcases ho with rfl | rfl | rfl | rfl | rfl | rfl | rfl <;> first | exact k1 | exact k2 | simp (implicitDefEqProofs := false) [enc_list]
      refine .ofCut (l := [(4, .ptr 0 16 0), (11, .ptr 9 1 0), (12, .ptr 10 3 0), (13, .ptr 11 1 0), (14, .ptr 17 1 0), (33, .func 113 [] [.ptr 18 16 0, .ptr 19 1 0, .ptr 20 1 0, .ptr 21 1 0])]) (M := X es ck B0 L0 u) ?_ ?_
      · have h2 := undX 22 (by omega) es ck B0 L0 u h1
        have hl := hlX es ck B0 L0 u
        have hk17 : 17 ≤ 22 := by omega
        have hcut := fun (fr : VFr) (l : List (Nat × PV)) (hs : ∀ p ∈ l, (fr p.1).le p.2 ∧ p.2.und 22 = true) => cutX (k := 17) (N := []) (X := X es ck B0 L0 u) (ext := []) (j := 22) hl hk17 h2 hs
        simp only [hX] at hcut
        rw [hX]
        refine hcut _ _ ?_
        simp (implicitDefEqProofs := false)
      refine VW.block ?_
      obtain ⟨J2, hJ2⟩ : ∃ J2 : Nat → VM → Prop, ∀ j pre, J2 j pre ↔ ∃ es ck, pre = X es ck (foldT (W i) i ((S i).take j) B0) (lateT (W i) ((S i).take j) L0) (max 0 u) ∧ MapOk keyS (WayE b text pip) es := ⟨_, fun _ _ => Iff.rfl⟩
      refine VW.rangeStarts (bb := 18) (kb := 19) (fb := 20) (lb := 21) (n0 := 22) (k := i) (b := b) (a := a) (u := u) (v := pip) hE J2 (fun _ _ => False) (by simp) o hi (by omega) (by omega) (by omega) rfl (mkF_und ?_) (hlX _ _ _ _ _) ?_ ?_ ?_ ?_ ?_ ?_ ?_ ?_
      · simp (implicitDefEqProofs := false)
      · rw [hX]; rfl
      · rw [hX]; rfl
      · rw [hX]; rfl
      · refine (hJ2 _ _).2 ⟨es, ck, ?_, h1⟩
        rw [hX, hX]; rfl
      · intro j pre hj
        obtain ⟨es2, ck2, rfl, h2⟩ := (hJ2 _ _).1 hj
        refine ⟨hlX _ _ _ _ _, ?_, ?_, undX _ (by omega) _ _ _ _ _ h2⟩
        · rw [hX]; rfl
        · rw [hX]; rfl
      · intro j s pre hjs hsv hs0 hj c6' Lr' Lb' hLb' hc6'
        obtain ⟨es2, ck2, rfl, h2⟩ := (hJ2 _ _).1 hj
        rw [← hSi] at hjs
        have htk := take_snoc hjs
        have hB9' : (foldT (W i) i ((S i).take j) B0).pieces ≤ 9 := Int.le_trans (foldT_spec _ _).2.1 hB9
        obtain ⟨B1, hB1⟩ : ∃ B1, foldT (W i) i ((S i).take j) B0 = B1 := ⟨_, rfl⟩
        obtain ⟨L1, hL1⟩ : ∃ L1, lateT (W i) ((S i).take j) L0 = L1 := ⟨_, rfl⟩
        have hB2 : foldT (W i) i ((S i).take (j + 1)) B0 = updW (W i s) i s B1 := by rw [htk, foldT_snoc, hB1]
        have hL2 : lateT (W i) ((S i).take (j + 1)) L0 = if (W i s).pieces = never then L1 else max L1 s := by rw [htk, lateT_snoc, hL1]
        rw [hB1] at hB9' ⊢
        rw [hL1]
        rw [hpn] at hWi hfl po
        generalize b.Pieces[i] = x at *
        have pw1 := po.w1
        have pw2 := po.w2
        have pl1 := po.l1
        have pl2 := po.l2
        have pt2 := po.t2
        obtain ⟨q, hq⟩ : ∃ q, x.Words.length = q := ⟨_, rfl⟩
        rw [hq] at hWi hfl pw1 pw2
        rw [Nat.zero_add] at hfl
        have v3 : IntKind.i64.wrap (s + x.Long) = s + x.Long := wrap64 (by omega) (by omega)
        have hi' : (i : Int) < b.Pieces.length := by omega
        simp only [hX]
        refine VW.run good [] ?_; simp (implicitDefEqProofs := false) [enc_list, setParamsV]
        refine VW.block (VW.seq ?_)
        refine VW.run good [] ?_; simp (implicitDefEqProofs := false) [enc_list, hi, hi', hgp, hq, v3, ha10, spc_capt, spliceV]
        unfold VCo
        obtain ⟨Y, hY⟩ : ∃ Y : List (PV × PV × Nat) → Nat → Found → Int → VM, ∀ es ck w lt, Y es ck w lt = [kbl b a.l, .cells [.int .i64 u], .cells [.int .i64 pip], kbl b a.l, .cells [.lst false text.length 1 (encL text)], .cells [.int .i64 pip], .map es ck, .cells [.map 6], .cells [waysC 7 4 5 3 8], .cells [waysC 7 4 5 3 8], celW w, .cells [.int .i64 lt], kbl b a.l, .cells [.lst false text.length 1 (encL text)], .cells [.int .i64 0], Lb, .cells c6, .cells [.int .i64 i], kbl b a.l, .cells [.int .i64 i], .cells [.int .i64 (max 0 u)], .cells [.int .i64 pip], Lb', .cells c6'] := ⟨_, fun _ _ _ _ => rfl⟩
        have hYX : ∀ es ck w lt, Y es ck w lt = X es ck w lt (max 0 u) ++ [Lb', .cells c6'] := fun es ck w lt => by rw [hX, hY]; rfl
        have hlY : ∀ es ck w lt, (Y es ck w lt).length = 24 := fun es ck w lt => by rw [hY]; rfl
        have hLb2 : Lb'.und 24 := hLb' _ (mkF_und (by simp (implicitDefEqProofs := false)))
        have undY : ∀ es ck w lt, MapOk keyS (WayE b text pip) es → ∀ o ∈ Y es ck w lt, o.und 24 := fun es ck w lt hes o ho => by
          rw [hYX] at ho
          rcases List.mem_append.1 ho with ho | ho
          · exact undX 24 (by omega) _ _ _ _ _ hes o ho
          · have k3 := hc6' 24
            simp only [List.mem_cons, List.not_mem_nil, or_false] at ho
            rcases ho with rfl | rfl
            · exact hLb2
            · exact k3
        rw [← hY]
        have wok := ways_ok o htl pip _ q (s + x.Long) rfl hfl (by omega)
        rw [← hWi s] at wok
        have wnn := wok.nn
        have w9 := wok.le9
        have v4 : IntKind.i64.wrap ((W i s).pieces + 1) = (W i s).pieces + 1 := wrap64 (by omega) (by omega)
        refine vc_ways (b := b) (a := a) (text := text) (pip := pip) (bb := 3) (tb := 4) (pb := 5) (kb := 7) (fb := 8) (mi := 6) hE o htl (by omega) hp1 hall _ q rfl hfl (s + x.Long) _ _ (by omega) (by omega) ?_ (by rw [hlY]; exact undY _ _ _ _ h2) ⟨es2, ck2, by rw [hY]; rfl, h2⟩ ?_
        · rw [hY]
          exact ⟨rfl, rfl, rfl, rfl, rfl, _, _, rfl⟩
        intro es3 ck3 ext h3
        rw [← hWi s, show (Y es2 ck2 B1 L1).set 6 (.map es3 ck3) = Y es3 ck3 B1 L1 by rw [hY, hY]; rfl]
        obtain ⟨LA, hLA⟩ : ∃ LA, 24 + ext.length = LA := ⟨_, rfl⟩
        have hAl : ∀ w lt, (Y es3 ck3 w lt ++ ext).length = LA := fun w lt => by rw [List.length_append, hlY, hLA]
        have hA10 : ∀ w lt, (Y es3 ck3 w lt ++ ext)[10]? = some (celW w) := fun w lt => by rw [hY]; rfl
        have hA11 : ∀ w lt, (Y es3 ck3 w lt ++ ext)[11]? = some (.cells [.int .i64 lt]) := fun w lt => by rw [hY]; rfl
        have hA17 : ∀ w lt, (Y es3 ck3 w lt ++ ext)[17]? = some (.cells [.int .i64 i]) := fun w lt => by rw [hY]; rfl
        have hS10 : ∀ w lt w' l, (Y es3 ck3 w lt ++ ext ++ l).set 10 (celW w') = Y es3 ck3 w' lt ++ ext ++ l := fun w lt w' l => by rw [hY, hY]; rfl
        have hS11 : ∀ w lt lt' l, (Y es3 ck3 w lt ++ ext ++ l).set 11 (.cells [.int .i64 lt']) = Y es3 ck3 w lt' ++ ext ++ l := fun w lt lt' l => by rw [hY, hY]; rfl
        have hfin : ∀ (w : Found) (lt : Int) (Z : VM), updW (W i s) i s B1 = w → (if (W i s).pieces = never then L1 else max L1 s) = lt → ∃ pre2, (∃ x', Y es3 ck3 w lt ++ ext ++ Z = pre2 ++ Lb' :: .cells c6' :: x') ∧ pre2.length = 22 ∧ J2 (j + 1) pre2 := fun w lt Z hw hl =>
          ⟨X es3 ck3 w lt (max 0 u), ⟨ext ++ Z, by rw [hYX]; simp⟩, hlX _ _ _ _ _, (hJ2 _ _).2 ⟨es3, ck3, by rw [hB2, hL2, hw, hl], h3⟩⟩
        have hgr : (dec (PV.lst true 1 1 [PV.int .i64 s]) : Option (List Int)) = some [s] := dec_lst true [s]
        generalize W i s = w at *
        obtain ⟨A, hA⟩ : ∃ A, Y es3 ck3 B1 L1 ++ ext = A := ⟨_, rfl⟩
        obtain ⟨A2, hA2⟩ : ∃ A2, Y es3 ck3 B1 (max L1 s) ++ ext = A2 := ⟨_, rfl⟩
        obtain ⟨A3, hA3⟩ : ∃ A3, Y es3 ck3 ⟨w.pieces + 1, i, s⟩ (max L1 s) ++ ext = A3 := ⟨_, rfl⟩
        have e1 := hAl B1 L1
        have e2 := hAl B1 (max L1 s)
        have e4 := hA10 B1 (max L1 s)
        have e5 := hA11 B1 L1
        have e6 := hA17 B1 (max L1 s)
        have e7 := hS11 B1 L1 (max L1 s)
        have e8 := hS10 B1 (max L1 s) ⟨w.pieces + 1, i, s⟩
        rw [hA] at e1 e5
        rw [hA2] at e2 e4 e6
        simp only [hA, hA2] at e7
        simp only [hA2, hA3] at e8
        have f1 := hfin B1 L1 [celW w]
        have f2 := hfin B1 (max L1 s) [celW w]
        have f3 := hfin ⟨w.pieces + 1, i, s⟩ (max L1 s) [celW w]
        rw [hA] at f1
        rw [hA2] at f2
        rw [hA3] at f3
        rw [hA]
        clear hAl hA10 hA11 hA17 hS10 hS11 hfin
        simp only [celW] at e8
        simp (implicitDefEqProofs := false) [enc_list, e1, get_pre0 e1, set_pre0 e1, spliceV]
        by_cases hn : w.pieces = 9
        · have hu1 : updW w i s B1 = B1 := if_neg (by omega)
          obtain ⟨pre2, g1, g2, g3⟩ := f1 hu1 (if_pos hn)
          have hn' : (w.pieces = 9) = True := eq_true hn
          refine VW.run good [] ?_; simp (implicitDefEqProofs := false) [enc_list, get_pre0 e1, hn']
          exact ⟨pre2, g1, g2, rfl, g3⟩
        · by_cases hlt : w.pieces + 1 < B1.pieces
          · obtain ⟨pre2, g1, g2, g3⟩ := f3 (if_pos hlt) (if_neg hn)
            refine VW.run good [] ?_; simp (implicitDefEqProofs := false) [enc_list, get_pre0 e1, get_hr e5, get_hr e4, get_hr e6, e7, e8, get_pre0 e2, hn, hgr, v4, hlt, spliceV]
            exact ⟨pre2, g1, g2, rfl, g3⟩
          · obtain ⟨pre2, g1, g2, g3⟩ := f2 (if_neg hlt) (if_neg hn)
            refine VW.run good [] ?_; simp (implicitDefEqProofs := false) [enc_list, get_pre0 e1, get_hr e5, get_hr e4, get_hr e6, e7, e8, get_pre0 e2, hn, hgr, v4, hlt, spliceV]
            exact ⟨pre2, g1, g2, rfl, g3⟩
      · intro pre L ext hj
        obtain ⟨es2, ck2, rfl, h2⟩ := (hJ2 _ _).1 hj
        rw [← hSi, List.take_length, ← hfK, ← hlK, hXP]
        refine ⟨P es2 ck2 (foldK b text 0 W S (i + 1) ⟨never, 0, 0⟩) (lateK b text W S (i + 1)), ⟨_, by rw [List.append_assoc]; rfl⟩, hlP _ _ _ _, rfl, (hJ _ _).2 ⟨es2, ck2, rfl, h2⟩⟩
      · intro e pre L ext hf; exact hf.elim
    · intro pre L ext hj
      obtain ⟨es, ck, rfl, h1⟩ := (hJ _ _).1 hj
      rw [show foldK b text 0 W S b.Pieces.length ⟨never, 0, 0⟩ = bestR b text u pip by rw [← hW, ← hS]; rfl, show lateK b text W S b.Pieces.length = lateR b text u pip by rw [← hW, ← hS]; rfl]
      unfold planF at hR
      by_cases hl : lateR b text u pip < 0
      · rw [if_pos hl] at hR
        subst hR
        rw [hP]
        simp (implicitDefEqProofs := false) [enc_list]
        refine VW.run good [] ?_; simp (implicitDefEqProofs := false) [enc_list, hl]
      · rw [if_neg hl] at hR
        obtain ⟨b1, b2, b3⟩ := best_out o htl hu0 hl
        simp only at hR
        generalize bestR b text u pip = B at *
        generalize lateR b text u pip = late at *
        obtain ⟨n, hn⟩ : ∃ n, B.pieces.toNat = n := ⟨_, rfl⟩
        rw [hn] at hR b1 b3
        rw [hP]
        simp (implicitDefEqProofs := false) [enc_list]
        obtain ⟨P12, hP12⟩ : ∃ P12 : List (PV × PV × Nat) → Nat → VM, ∀ es ck, P12 es ck = [kbl b a.l, .cells [.int .i64 u], .cells [.int .i64 pip], kbl b a.l, .cells [.lst false text.length 1 (encL text)], .cells [.int .i64 pip], .map es ck, .cells [.map 6], .cells [waysC 7 4 5 3 8], .cells [waysC 7 4 5 3 8], celW B, .cells [.int .i64 late]] := ⟨_, fun _ _ => rfl⟩
        have hl12 : ∀ es ck, (P12 es ck).length = 12 := fun es ck => by rw [hP12]; rfl
        have und12 : ∀ j, 12 ≤ j → ∀ es ck, MapOk keyS (WayE b text pip) es → ∀ o ∈ P12 es ck, o.und j := fun j hj es ck hes o ho => by
          rw [hP12] at ho
          have hm := wayE_und hes ck j
          simp only [List.mem_cons, List.not_mem_nil, or_false] at ho
          rcases ho with rfl | rfl | rfl | rfl | rfl | rfl | rfl | rfl | rfl | rfl | rfl | rfl <;> first | exact hm | (simp (implicitDefEqProofs := false) [enc_list]; done) | (simp (implicitDefEqProofs := false) [enc_list]; omega)
        refine .ofCut (l := [(4, .ptr 0 16 0), (11, .ptr 9 1 0), (12, .ptr 10 3 0), (13, .ptr 11 1 0)]) (M := P12 es ck) ?_ ?_
        · have h2 := und12 12 (by omega) es ck h1
          have hl := hl12 es ck
          have hcut := fun (fr : VFr) (l : List (Nat × PV)) (ext : VM) (hs : ∀ p ∈ l, (fr p.1).le p.2 ∧ p.2.und 12 = true) => cutX (k := 0) (N := []) (X := P12 es ck) (ext := ext) (j := 12) hl (Nat.zero_le _) h2 hs
          simp only [hP12] at hcut
          rw [hP12]
          refine hcut _ _ (.cells _ :: .cells _ :: .cells _ :: .loop L :: ext) ?_
          simp (implicitDefEqProofs := false)
        rw [hP12]
        refine VW.seq (VW.run good [] ?_); simp (implicitDefEqProofs := false) [enc_list, hl]
        refine VW.seq (VW.run good [] ?_); simp (implicitDefEqProofs := false) [enc_list]
        refine VW.declare 17 2 (by simp) ?_
        refine VW.seq (VW.run good [] ?_); simp (implicitDefEqProofs := false) [enc_list]
        refine VW.seq (VW.seq (VW.run good [] ?_))
        simp (implicitDefEqProofs := false) [enc_list, spliceV]
        refine VW.block ?_
        refine VW.loop_toE 4 (fun (y : List (PV × PV × Nat) × Nat) => [(13, .ptr 11 1 0), (17, .sl 12 ((outF b text pip n 0 B).length * 2) 0 (outF b text pip n 0 B).length (openCap + 2) 2)]) (fun (y : List (PV × PV × Nat) × Nat) => (P12 y.1 y.2 ++ [.vec (encL (outF b text pip n 0 B))])) (fun (y : List (PV × PV × Nat) × Nat) => True) ?_ (fun y hp f m hc => ?_)
        · obtain ⟨Inv, hI⟩ : ∃ Inv : Nat → List (Nat × PV) → VM → Prop, ∀ k f m, Inv k f m ↔ (∃ (p : Nat) (x : Found) (es : List (PV × PV × Nat)) (ck : Nat) (out : List Start) (g gi : Nat), 13 + g = gi ∧ f = [(4, .ptr 0 16 0), (11, .ptr 9 1 0), (12, .ptr 10 3 0), (13, .ptr 11 1 0), (17, .sl 12 (out.length * 2) 0 out.length (openCap + 2) 2), (18, .int .i64 p), (19, .ptr gi 3 0)] ∧ m = P12 es ck ++ [.vec (encL out)] ++ List.replicate g .gone ++ [celW x] ∧ MapOk keyS (WayE b text pip) es ∧ out.length = k ∧ outF b text pip n 0 B = out ++ outF b text pip (n - k) p x ∧ OutI b text pip p x (n - k) ∧ p ≤ text.length) := ⟨_, fun _ _ _ => Iff.rfl⟩
          have undV : ∀ j, 13 ≤ j → ∀ es ck (out : List Start), MapOk keyS (WayE b text pip) es → ∀ o ∈ P12 es ck ++ [.vec (encL out)], o.und j := fun j hj es ck out hes o ho => by
            rcases List.mem_append.1 ho with ho | ho
            · exact und12 j (by omega) _ _ hes o ho
            · rw [List.mem_singleton] at ho; subst ho; trivial
          refine VW.loop_cut Inv n ?_ ?_ ?_
          · refine ⟨_, _, (hI _ _ _).2 ⟨0, B, es, ck, [], 0, 13, rfl, rfl, rfl, h1, rfl, by simp, b3, Nat.zero_le _⟩, ?_⟩
            have hcut := fun (fr : VFr) (l : List (Nat × PV)) (hs : ∀ p ∈ l, (fr p.1).le p.2 ∧ p.2.und 14 = true) => cut_gone (k := 0) (A := P12 es ck ++ [.vec (encL ([] : List Start))]) (G := []) (R := []) (o := celW B) (a := 13) (j := 14) (by simp [hl12]) rfl (Nat.zero_le _) (undV 14 (by omega) es ck [] h1) (by simp (implicitDefEqProofs := false)) hs
            simp only [hP12] at hcut
            rw [hP12]
            refine hcut _ _ ?_
            simp (implicitDefEqProofs := false)
          · intro k f m hk hi
            obtain ⟨p, x, es, ck, out, g, gi, hgi, rfl, rfl, hes, hlo, hout, hOI, hpl⟩ := (hI _ _ _).1 hi
            obtain ⟨AA, hAA⟩ : ∃ AA : List (PV × PV × Nat) → Nat → List Start → VM, ∀ es ck out, AA es ck out = P12 es ck ++ [.vec (encL out)] ++ List.replicate g .gone := ⟨_, fun _ _ _ => rfl⟩
            rw [← hAA]
            have hAl : ∀ es ck out, (AA es ck out).length = gi := fun es ck out => by rw [hAA]; simp [hl12]; omega
            have q0 : ∀ es ck out l, (AA es ck out ++ l)[0]? = some (kbl b a.l) := fun es ck out l => by rw [hAA, hP12]; rfl
            have q0' : ∀ es ck out l h', (AA es ck out ++ l)[0]'h' = kbl b a.l := fun es ck out l h' => Option.some.inj ((List.getElem?_eq_getElem h').symm.trans (q0 es ck out l))
            have q9 : ∀ es ck out l, (AA es ck out ++ l)[9]? = some (.cells [waysC 7 4 5 3 8]) := fun es ck out l => by rw [hAA, hP12]; rfl
            have q10 : ∀ es ck out l, (AA es ck out ++ l)[10]? = some (celW B) := fun es ck out l => by rw [hAA, hP12]; rfl
            have q12 : ∀ es ck out l, (AA es ck out ++ l)[12]? = some (.vec (encL out)) := fun es ck out l => by rw [hAA, hP12]; rfl
            have s12 : ∀ es ck out out' l, (AA es ck out ++ l).set 12 (.vec (encL out')) = AA es ck out' ++ l := fun es ck out out' l => by rw [hAA, hAA, hP12]; rfl
            have s6 : ∀ es ck out es' ck' l, (AA es ck out ++ l).set 6 (.map es' ck') = AA es' ck' out ++ l := fun es ck out es' ck' l => by rw [hAA, hAA, hP12, hP12]; rfl
            obtain ⟨m', hm'⟩ : ∃ m', n - k = m' + 1 := ⟨n - k - 1, by omega⟩
            rw [hm'] at hout hOI
            have hn9 : n ≤ 9 := by omega
            obtain ⟨kk, hkk, hkn, hat0, hat1, hpl2, hOI2⟩ := out_next o htl (by omega) hOI
            rw [outF, hkk, pieceAt_N] at hout
            have hkn' : (kk : Int) < b.Pieces.length := by omega
            have hgp := get_Piece b.Pieces kk hkn
            have hpn : pieceN b kk = b.Pieces[kk] := by unfold pieceN; rw [List.getD_eq_getElem?_getD, List.getElem?_eq_getElem hkn]; rfl
            have po := pieceN_ok o hkn
            rw [hpn] at po hout hpl2 hOI2
            generalize b.Pieces[kk] = y at *
            obtain ⟨xp, xk, xa⟩ := x
            simp only at hkk hat0 hat1 hout hOI2
            subst hkk
            have pl1 := po.l1
            have pl2 := po.l2
            have pt2 := po.t2
            obtain ⟨p', hp'⟩ : ∃ p', p + y.Words.length = p' := ⟨_, rfl⟩
            rw [hp'] at hout hpl2 hOI2
            have v1 : IntKind.i64.wrap ((p : Int) + y.Words.length) = (p' : Int) := by rw [wrap64 (by omega) (by omega)]; omega
            have v2 : IntKind.i64.wrap (xa + y.Long) = xa + y.Long := wrap64 (by omega) (by omega)
            have hf : fits (out.length + 1) 16 = true := by unfold fits; simp; omega
            have hk1 : out.length < n := by omega
            have hk1' : (out.length : Int) < (n : Int) := by omega
            have hap := app_Start (AA es ck out ++ [celW ⟨xp, (kk : Int), xa⟩]) 12 16 out ⟨(kk : Int), xa⟩ (q12 _ _ _ _) hf
            rw [s12] at hap
            simp only at hap
            refine VW.seq (VW.run good [] ?_); simp (implicitDefEqProofs := false) [enc_list, q10, b1, hk1, hk1']
            refine VW.seq (VW.block ?_)
            refine VW.run good [] ?_; simp (implicitDefEqProofs := false) [enc_list, q0, q0', q9, q10, q12, get_pre0 (hAl es ck out), get_pre0 (hAl es ck (out ++ [⟨(kk : Int), xa⟩])), hap, spliceV, ha10, hkn, hkn', hgp, v1, v2, spc_capt]
            unfold VCo
            have undA : ∀ es ck out (w : Found), MapOk keyS (WayE b text pip) es → ∀ o ∈ AA es ck out ++ [celW w], o.und (gi + 1) := fun es ck out w hes o ho => by
              rcases List.mem_append.1 ho with ho | ho
              · rw [hAA] at ho
                rcases List.mem_append.1 ho with ho | ho
                · exact undV _ (by omega) es ck out hes o ho
                · rw [List.eq_of_mem_replicate ho]; trivial
              · rw [List.mem_singleton] at ho; subst ho
                simp (implicitDefEqProofs := false)
            refine vc_ways (b := b) (a := a) (text := text) (pip := pip) (bb := 3) (tb := 4) (pb := 5) (kb := 7) (fb := 8) (mi := 6) hE o htl (by omega) hp1 hall _ p' rfl hpl2 (xa + y.Long) _ _ (by omega) (by omega) ?_ (by rw [List.length_append, hAl]; exact undA _ _ _ _ hes) ⟨es, ck, by rw [hAA, hP12]; rfl, hes⟩ ?_
            · rw [hAA, hP12]
              exact ⟨rfl, rfl, rfl, rfl, rfl, _, _, rfl⟩
            intro es3 ck3 ext h3
            rw [s6]
            generalize waysR b text pip p' (xa + y.Long) = w at *
            obtain ⟨LA, hLA⟩ : ∃ LA, gi + 1 + ext.length = LA := ⟨_, rfl⟩
            have hBl : (AA es3 ck3 (out ++ [⟨(kk : Int), xa⟩]) ++ [celW w] ++ ext).length = LA := by rw [List.length_append, List.length_append, hAl, ← hLA]; rfl
            have st : (AA es3 ck3 (out ++ [⟨(kk : Int), xa⟩]) ++ [celW ⟨xp, (kk : Int), xa⟩] ++ ext).set gi (celW w) = AA es3 ck3 (out ++ [⟨(kk : Int), xa⟩]) ++ [celW w] ++ ext := by rw [List.append_assoc, set_pre0 (hAl _ _ _), List.append_assoc]; rfl
            have sg : ∀ w, (AA es3 ck3 (out ++ [⟨(kk : Int), xa⟩]) ++ [celW w] ++ ext)[gi]? = some (celW w) := fun w => by rw [List.append_assoc, get_pre0 (hAl _ _ _)]; rfl
            have sg1 := sg ⟨xp, (kk : Int), xa⟩
            have sg2 := sg w
            have hgone := fun (fr : VFr) (l : List (Nat × PV)) (hs : ∀ p ∈ l, (fr p.1).le p.2 ∧ p.2.und (LA + 1) = true) => cut_gone (k := 0) (A := P12 es3 ck3 ++ [.vec (encL (out ++ [⟨(kk : Int), xa⟩]))]) (G := List.replicate g .gone ++ celW w :: ext) (R := []) (o := celW w) (a := 13) (j := LA + 1) (by simp [hl12]) (by simp; omega) (Nat.zero_le _) (undV _ (by omega) es3 ck3 _ h3) (by simp (implicitDefEqProofs := false)) hs
            have hmem : P12 es3 ck3 ++ [.vec (encL (out ++ [⟨(kk : Int), xa⟩]))] ++ (List.replicate g .gone ++ celW w :: ext ++ celW w :: []) = AA es3 ck3 (out ++ [⟨(kk : Int), xa⟩]) ++ [celW w] ++ ext ++ [celW w] := by rw [hAA]; simp
            rw [hmem] at hgone
            simp only [celW] at st
            generalize AA es3 ck3 (out ++ [⟨(kk : Int), xa⟩]) ++ [celW w] ++ ext = Z at *
            generalize AA es3 ck3 (out ++ [⟨(kk : Int), xa⟩]) ++ [celW ⟨xp, (kk : Int), xa⟩] ++ ext = Z1 at *
            simp (implicitDefEqProofs := false) [enc_list, sg1, sg2, st, spliceV]
            refine VW.run good [] ?_; simp (implicitDefEqProofs := false) [enc_list, sg2, hBl, get_pre0 hBl, set_pre0 hBl, spliceV]
            have hfin : P12 es3 ck3 ++ [VObj.vec (encL (out ++ [⟨(kk : Int), xa⟩]))] ++ (List.replicate (List.replicate g VObj.gone ++ celW w :: ext).length .gone ++ [celW w]) = P12 es3 ck3 ++ [.vec (encL (out ++ [⟨(kk : Int), xa⟩]))] ++ List.replicate (g + 1 + ext.length) .gone ++ [celW w] := by
              rw [show (List.replicate g VObj.gone ++ celW w :: ext).length = g + 1 + ext.length by simp; omega, ← List.append_assoc]
            rw [hfin] at hgone
            refine ⟨_, _, (hI _ _ _).2 ⟨p', w, es3, ck3, out ++ [⟨(kk : Int), xa⟩], g + 1 + ext.length, LA, by omega, rfl, rfl, h3, by simp [hlo], by rw [hout, List.append_assoc, show n - (k + 1) = m' by omega]; rfl, by rw [show n - (k + 1) = m' by omega]; exact hOI2, hpl2⟩, hgone _ _ ?_⟩
            simp (implicitDefEqProofs := false)
            omega
          · intro f m hi
            obtain ⟨p, x, es, ck, out, g, gi, hgi, rfl, rfl, hes, hlo, hout, hOI, hpl⟩ := (hI _ _ _).1 hi
            rw [Nat.sub_self, outF, List.append_nil] at hout
            have q10 : (P12 es ck ++ [.vec (encL out)] ++ List.replicate g .gone ++ [celW x])[10]? = some (celW B) := by rw [hP12]; rfl
            have hk1 : ¬ out.length < n := by omega
            have hk1' : ¬ (out.length : Int) < (n : Int) := by omega
            obtain ⟨A, hA⟩ : ∃ A, P12 es ck ++ [.vec (encL out)] ++ List.replicate g .gone ++ [celW x] = A := ⟨_, rfl⟩
            rw [hA] at q10 ⊢
            refine VW.run good [] ?_; simp (implicitDefEqProofs := false) [enc_list, q10, b1, hk1, hk1']
            refine ⟨es, ck, ?_⟩
            rw [hout, ← hA]
            rw [List.append_assoc (P12 es ck ++ [VObj.vec (encL out)])]
            refine cut_pre' (n := 13) (by simp [hl12]) (Nat.zero_le _) (undV 13 (by omega) es ck out hes) ?_
            simp (implicitDefEqProofs := false)
        · simp (implicitDefEqProofs := false) [enc_list, AExit.leave]
          rw [hP12] at hc
          refine .ofCut hc (VW.run good [] ?_)
          have hRl : (outF b text pip n 0 B).length = (outF b text pip n 0 B).length := rfl
          generalize outF b text pip n 0 B = out at *
          subst hR
          simp (implicitDefEqProofs := false) [enc_list]
    · intro e pre L ext hf; exact hf.elim
  · cases hr
end Go.RS.DC

/- Walks: the program (17): Plan and Latest. -/
namespace Go.RS.DC
open Go Go.RS
open Go.RS.Enc (enc dec)
variable {E : VEnv}
theorem planS_all {b : Book} {t : List Int} {f p : Int} (h : askedV b t f p = 0) : planS ⟨b, canA (allL b.Pieces.length)⟩ t f p = some (match planF b t f p with | some r => ⟨r.1, r.2, true⟩ | none => ⟨[], 0, false⟩) := by
  have a := asked_ok h
  have ho : okB b = true := by
    cases ho : okB b with
    | true => rfl
    | false => unfold askedV at h; rw [ho] at h; simp at h
  exact if_pos ⟨ho, fun i hi => can_all hi a.o.p2, a.t8, a.f0, a.fp, a.p1⟩
set_option maxRecDepth 20000 in
theorem v_Plan (hE : E.env.fn = G) : Ok E 26 (s4 fun b t f p => some (PlanPR b t f p)) := by
  refine ok4 fun b t f p r hr => ?_
  cases hr
  have good := goodV_cons (v_asked hE) (goodV_cons (v_all hE) (goodV_cons (v_opened hE) (goodV_cons (v_plan hE) goodV_nil)))
  by_cases ha : askedV b t f p = 0
  · have a := asked_ok ha
    have hA : allF b = some (allL b.Pieces.length) := if_pos a.o.p2
    have hO := open_all a.o
    have hS := planS_all ha
    have h10 : (canA (allL b.Pieces.length)).l.length = 10 := (canA _).h
    have hR : PlanPR b t f p = (match planF b t f p with | some r => (r.1, 0) | none => ([], 4)) := if_pos ha
    rw [hR]
    generalize canA (allL b.Pieces.length) = c at *
    generalize planF b t f p = m at *
    cases m with
    | none => refine VP.run (A := F26) (good) [] (by rw [hE]; rfl) (by simp [F26]) ?_; unfold F26; simp (implicitDefEqProofs := false) [enc_list, ha, hA, hO, enc_BookC, fzL_bools, encL_isF, dec_BookC, hS, slV_al, take_al, take_Start, List.take_length]
    | some q =>
      obtain ⟨l, late⟩ := q
      refine VP.run (A := F26) (good) [] (by rw [hE]; rfl) (by simp [F26]) ?_; unfold F26; simp (implicitDefEqProofs := false) [enc_list, ha, hA, hO, enc_BookC, fzL_bools, encL_isF, dec_BookC, hS, slV_al, take_al, take_Start, List.take_length]
  · have hR : PlanPR b t f p = ([], askedV b t f p) := if_neg ha
    rw [hR]
    refine VP.run (A := F26) (good) [] (by rw [hE]; rfl) (by simp [F26]) ?_; unfold F26; simp (implicitDefEqProofs := false) [enc_list, ha]
set_option maxRecDepth 20000 in
theorem v_Latest (hE : E.env.fn = G) : Ok E 28 (s4 fun b t f p => some (LatestPR b t f p)) := by
  refine ok4 fun b t f p r hr => ?_
  cases hr
  have good := goodV_cons (v_asked hE) (goodV_cons (v_all hE) (goodV_cons (v_opened hE) (goodV_cons (v_plan hE) goodV_nil)))
  by_cases ha : askedV b t f p = 0
  · have a := asked_ok ha
    have hA : allF b = some (allL b.Pieces.length) := if_pos a.o.p2
    have hO := open_all a.o
    have hS := planS_all ha
    have h10 : (canA (allL b.Pieces.length)).l.length = 10 := (canA _).h
    have hR : LatestPR b t f p = (match planF b t f p with | some r => (r.2, 0) | none => (0, 4)) := if_pos ha
    rw [hR]
    generalize canA (allL b.Pieces.length) = c at *
    generalize planF b t f p = m at *
    cases m with
    | none => refine VP.run (A := F28) (good) [] (by rw [hE]; rfl) (by simp [F28]) ?_; unfold F28; simp (implicitDefEqProofs := false) [enc_list, ha, hA, hO, enc_BookC, fzL_bools, encL_isF, dec_BookC, hS]
    | some q =>
      obtain ⟨l, late⟩ := q
      refine VP.run (A := F28) (good) [] (by rw [hE]; rfl) (by simp [F28]) ?_; unfold F28; simp (implicitDefEqProofs := false) [enc_list, ha, hA, hO, enc_BookC, fzL_bools, encL_isF, dec_BookC, hS]
  · have hR : LatestPR b t f p = (0, askedV b t f p) := if_neg ha
    rw [hR]
    refine VP.run (A := F28) (good) [] (by rw [hE]; rfl) (by simp [F28]) ?_; unfold F28; simp (implicitDefEqProofs := false) [enc_list, ha]
end Go.RS.DC

/- Walks: the program (18): Day. -/
namespace Go.RS.DC
open Go Go.RS
open Go.RS.Enc (enc dec)
variable {E : VEnv}
theorem reading_b {c : Cal} {t : Int} (h : (ReadingR c t).2 = 0) : okC c = true ∧ 0 ≤ t ∧ t < allR c ∧ allR c ≤ 864010 := by
  unfold ReadingR at h
  split at h
  · rename_i ho
    split at h
    · rename_i hw
      have := (wi_iff _ _ _).1 hw
      have := allR_b (okC_ok ho)
      exact ⟨ho, by omega, by omega, by omega⟩
    · simp at h
  · simp at h
theorem nextR_b {c : Cal} {t each : Int} (h : (NextR c t each).2 = 0) : 0 ≤ (NextR c t each).1 ∧ (NextR c t each).1 ≤ 1000000 := by
  unfold NextR at h ⊢
  split at h
  · rename_i ho
    rw [if_pos ho]
    split at h
    · rename_i hw
      rw [if_pos hw]
      rw [Bool.and_eq_true, wi_iff] at hw
      have ab := allR_b (okC_ok ho)
      rcases (next_ok (okC_ok ho) (each := each) (t := t) (by omega) (by omega)).ok with ⟨_, h2, h3, _⟩ | ⟨h2, _⟩
      · exact ⟨by omega, by omega⟩
      · rw [h2] at h; simp at h
    · simp at h
  · simp at h
set_option maxHeartbeats 1600000 in
set_option maxRecDepth 20000 in
theorem v_Day (hE : E.env.fn = G) (hgl : E.gl 1 = some [f130v, f131v]) (hgl2 : E.gl 0 = some vparts) : Ok E 30 (s5 fun b c tick each many => some (DayP b c tick each many)) := by
  refine ok5 fun b c tick each many r hr => ?_
  cases hr
  have good := goodV_cons (v_Check hE) (goodV_cons (v_within hE) (goodV_cons (w_ReadingP hE hgl) (goodV_cons (w_NextP hE hgl) (goodV_cons (v_Words hE hgl2) (goodV_cons (v_Plan hE) goodV_nil)))))
  cases ho : okB b
  · have hck : checkB b = 50 := by unfold checkB; rw [ho]; rfl
    have hR : DayP b c tick each many = ([], 50) := by unfold DayP dayOk; rw [ho]; rfl
    rw [hR]
    refine VP.run (A := F30) (good) [] (by rw [hE]; rfl) (by simp [F30]) ?_; unfold F30; simp (implicitDefEqProofs := false) [enc_list, hck]
  · have hck : checkB b = 0 := by unfold checkB; rw [ho]; rfl
    obtain ⟨⟨Rd1, Rd2⟩, hRd⟩ : ∃ Rd, ReadingR c tick = Rd := ⟨_, rfl⟩
    by_cases h1 : Rd2 = 0
    · obtain ⟨rb1, rb2, rb3, rb4⟩ := reading_b (by rw [hRd]; exact h1)
      cases h2 : wi each 1 60
      · have hR : DayP b c tick each many = ([], 52) := by unfold DayP dayOk; simp [ho, hRd, h1, h2]
        rw [hR]
        refine VP.run (A := F30) (good) [] (by rw [hE]; rfl) (by simp [F30]) ?_; unfold F30; simp (implicitDefEqProofs := false) [enc_list, hck, hRd, h1, h2, spliceV]
      · cases h3 : wi many 1 20
        · have hR : DayP b c tick each many = ([], 52) := by unfold DayP dayOk; simp [ho, hRd, h1, h2, h3]
          rw [hR]
          refine VP.run (A := F30) (good) [] (by rw [hE]; rfl) (by simp [F30]) ?_; unfold F30; simp (implicitDefEqProofs := false) [enc_list, hck, hRd, h1, h2, h3, spliceV]
        · have hR : DayP b c tick each many = (dayV (numP b c) c each many.toNat tick, 0) := by unfold DayP dayOk; simp [ho, hRd, h1, h2, h3]
          rw [hR]
          obtain ⟨mb1, mb2⟩ := (wi_iff _ _ _).1 h3
          obtain ⟨N, hN⟩ : ∃ N : Nat, many = N := ⟨many.toNat, by omega⟩
          subst hN
          rw [Int.toNat_natCast]
          generalize hT : dayV (numP b c) c each N tick = T
          refine VP.func (A := F30) (by rw [hE]; rfl) (by simp [F30]) ?_
          unfold F30
          refine VW.seq (VW.run good [] ?_); simp (implicitDefEqProofs := false) [enc_list]
          refine VW.seq (VW.run good [] ?_); simp (implicitDefEqProofs := false) [enc_list, hck]
          refine VW.seq (VW.run good [] ?_); simp (implicitDefEqProofs := false) [enc_list, hRd, h1, h2, h3, spliceV]
          refine .ofCut (l := [(2, .int .i64 tick), (3, .int .i64 each), (4, .int .i64 N), (5, .ptr 0 6 0), (6, .ptr 1 5 0)]) (M := [bcl b, clc c]) ⟨2, [], by simp [enc_list], by simp, by simp, by simp (implicitDefEqProofs := false) [enc_list], by simp (implicitDefEqProofs := false) [enc_list]⟩ ?_
          refine VW.seq (VW.run good [] ?_); simp (implicitDefEqProofs := false) [enc_list]
          refine VW.declare 15 1 (by simp) ?_
          refine VW.seq (VW.seq (VW.run good [] ?_))
          simp (implicitDefEqProofs := false) [enc_list]
          refine VW.block ?_
          refine VW.loop_to 0 [(15, sl1 2 T)] [bcl b, clc c, .vec (encL T)] (True) ?_ (fun hp f m hc => ?_)
          · obtain ⟨Inv, hI⟩ : ∃ Inv : Nat → List (Nat × PV) → VM → Prop, ∀ k f m, Inv k f m ↔ (∃ (out : List Int) (tk : Int), f = [(2, .int .i64 tk), (3, .int .i64 each), (5, .ptr 0 6 0), (6, .ptr 1 5 0), (15, sl1 2 out), (48, .int .i64 N), (49, .int .i64 k)] ∧ m = [bcl b, clc c, .vec (encL out)] ∧ out ++ dayV (numP b c) c each (N - k) tk = T ∧ 0 ≤ tk ∧ tk ≤ 1000000 ∧ out.length = k) := ⟨_, fun _ _ _ => Iff.rfl⟩
            refine VW.loop_cut Inv N ?_ ?_ ?_
            · exact ⟨_, _, (hI _ _ _).2 ⟨[], tick, rfl, rfl, by simpa using hT, rb2, by omega, rfl⟩, ⟨3, [], by simp [enc_list], by simp, by simp, by simp (implicitDefEqProofs := false) [enc_list], by simp (implicitDefEqProofs := false) [enc_list]⟩⟩
            · intro k f m hk hi
              obtain ⟨out, tk, rfl, rfl, ht, t0, t1, hl⟩ := (hI _ _ _).1 hi
              have w1 : IntKind.i64.wrap ((k : Int) + 1) = k + 1 := wrap64 (by omega) (by omega)
              have w2 : IntKind.i64.wrap (tk + 1) = tk + 1 := wrap64 (by omega) (by omega)
              have w3 : IntKind.i64.wrap (100 * tk) = 100 * tk := wrap64 (by omega) (by omega)
              have hk' : (k : Int) < (N : Int) := by omega
              rw [show N - k = (N - (k + 1)) + 1 by omega, dayV] at ht
              by_cases hn : (NextR c (tk + 1) each).2 = 0
              · obtain ⟨n0, n1⟩ := nextR_b hn
                rw [if_pos hn] at ht
                obtain ⟨nx, hnx⟩ : ∃ nx, (NextR c (tk + 1) each).1 = nx := ⟨_, rfl⟩
                have hNx : NextR c (tk + 1) each = (nx, 0) := by rw [← hnx, ← hn]
                rw [hnx] at ht n0 n1
                have w4 : IntKind.i64.wrap (100 * nx) = 100 * nx := wrap64 (by omega) (by omega)
                have hf : fits (out.length + 1) 8 = true := fits8L (by omega)
                have hnum : numP b c tk nx = if (PlanPR b (textD c nx) (100 * tk) (100 * nx)).2 = 0 then ((PlanPR b (textD c nx) (100 * tk) (100 * nx)).1.length : Int) else -1 := rfl
                have htx : textD c nx = (WordsR (ReadingR c nx).1).1 := rfl
                rw [hnum] at ht
                obtain ⟨rd, hrd⟩ : ∃ rd, ReadingR c nx = rd := ⟨_, rfl⟩
                obtain ⟨rd1, rd2⟩ := rd
                rw [hrd] at htx
                simp only at htx
                obtain ⟨wr, hwr⟩ : ∃ wr, WordsR rd1 = wr := ⟨_, rfl⟩
                rw [hwr] at htx
                obtain ⟨wr1, wr2⟩ := wr
                simp only at htx
                rw [htx] at ht
                obtain ⟨pl, hpl⟩ : ∃ pl, PlanPR b wr1 (100 * tk) (100 * nx) = pl := ⟨_, rfl⟩
                obtain ⟨pl1, pl2⟩ := pl
                rw [hpl] at ht
                simp only at ht
                by_cases he : pl2 = 0
                · rw [if_pos he] at ht
                  refine VW.run good [] ?_; simp (implicitDefEqProofs := false) [enc_list, hk', w1, w2, w3, w4, hNx, hrd, hwr, hpl, he, hf, spliceV]
                  exact ⟨_, _, (hI _ _ _).2 ⟨out ++ [(pl1.length : Int)], nx, rfl, rfl, by rw [← ht]; simp, n0, n1, by simp [hl]⟩, ⟨3, [], by simp [enc_list], by simp, by simp, by simp (implicitDefEqProofs := false) [enc_list], by simp (implicitDefEqProofs := false) [enc_list]⟩⟩
                · rw [if_neg he] at ht
                  refine VW.run good [] ?_; simp (implicitDefEqProofs := false) [enc_list, hk', w1, w2, w3, w4, hNx, hrd, hwr, hpl, he, hf, spliceV]
                  exact ⟨_, _, (hI _ _ _).2 ⟨out ++ [-1], nx, rfl, rfl, by rw [← ht]; simp, n0, n1, by simp [hl]⟩, ⟨3, [], by simp [enc_list], by simp, by simp, by simp (implicitDefEqProofs := false) [enc_list], by simp (implicitDefEqProofs := false) [enc_list]⟩⟩
              · rw [if_neg hn, List.append_nil] at ht
                subst ht
                obtain ⟨⟨nx, ne⟩, hNx⟩ : ∃ r, NextR c (tk + 1) each = r := ⟨_, rfl⟩
                rw [hNx] at hn
                simp only at hn
                refine VW.run good [] ?_; simp (implicitDefEqProofs := false) [enc_list, hk', w1, w2, w3, hNx, hn]
                exact ⟨3, [], by simp [enc_list], by simp, by simp, by simp (implicitDefEqProofs := false) [enc_list], by simp (implicitDefEqProofs := false) [enc_list]⟩
            · intro f m hi
              obtain ⟨out, tk, rfl, rfl, ht, t0, t1, hl⟩ := (hI _ _ _).1 hi
              rw [Nat.sub_self, dayV, List.append_nil] at ht
              subst ht
              refine VW.run good [] ?_; simp (implicitDefEqProofs := false) [enc_list]
              exact ⟨3, [], by simp [enc_list], by simp, by simp, by simp (implicitDefEqProofs := false) [enc_list], by simp (implicitDefEqProofs := false) [enc_list]⟩
          · refine .ofCut hc (VW.freeze (t := 2) (len := T.length) (o := 0) (q := T.length) (cap := openCap + 1) (e := 1) 15 (by simp) (.ofCut (l := [(15, .lst false T.length 1 (encL T))]) (M := []) ⟨0, [], by simp [enc_list], by simp, by simp, by simp (implicitDefEqProofs := false) [enc_list], by simp (implicitDefEqProofs := false) [enc_list]⟩ ?_))
            refine VW.run good [] ?_; simp (implicitDefEqProofs := false) [enc_list, slV_al, take_al]
    · have hR : DayP b c tick each many = ([], 52) := by unfold DayP dayOk; simp [ho, hRd, h1]
      rw [hR]
      refine VP.run (A := F30) (good) [] (by rw [hE]; rfl) (by simp [F30]) ?_; unfold F30; simp (implicitDefEqProofs := false) [enc_list, hck, hRd, h1, spliceV]
end Go.RS.DC

