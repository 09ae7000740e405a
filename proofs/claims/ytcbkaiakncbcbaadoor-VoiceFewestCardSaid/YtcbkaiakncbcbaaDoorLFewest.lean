/- Walks: the law VoiceFewest. -/
import Derived.Test.YtcbkaiakncbcbaaDoorVla
import Derived.Test.YtcbkaiakncbcbaaDoorVpa
set_option linter.all false
namespace Go.RS.DC
open Go Go.RS
open Go.RS.Enc (enc dec)
variable {E : VEnv}
theorem all_in {b : Book} {l : List Int} (h : InR b every l) : l.all (inB b) = true := List.all_eq_true.2 fun k hk => inB_iff.2 ⟨(h k hk).1, (h k hk).2.1⟩
theorem said_of {b : Book} (ho : okB b = true) {l : List Int} (h : InR b every l) (hl : l.length ≤ 100) : saidG b l = some (wordsL b l, true) := by
  unfold saidG; rw [if_pos ⟨ho, hl⟩, if_pos (all_in h)]
set_option maxHeartbeats 1600000 in
set_option maxRecDepth 20000 in
theorem l_Fewest (hE : E.env.fn = G) (hgl : E.gl 1 = some [f130v, f131v]) (hgl2 : E.gl 0 = some vparts) (b : Book) (bits : List Int) : VP E 7 [enc b, enc bits] (.bool true) := by
  have good := goodV_cons (v_sound hE) (goodV_cons (v_some hE) (goodV_cons (v_Fewest hE) (goodV_cons (v_said hE) (goodV_cons (w_Alike hE) (goodV_cons (w_Ahead hE) (goodV_cons (v_works hE hgl hgl2) goodV_nil))))))
  cases ho : okB b
  · refine VP.run (A := F7) (good) [] (by rw [hE]; rfl) (by simp [F7]) ?_; unfold F7; simp (implicitDefEqProofs := false) [enc_list, ho]
  · have o := okB_ok ho
    have so := some_ok o bits
    have hS : someG b bits = some (someF b bits) := if_pos ho
    obtain ⟨⟨t, m⟩, hsf⟩ : ∃ s, someF b bits = s := ⟨_, rfl⟩
    rw [hsf] at hS so
    obtain ⟨ht, hr, hl8⟩ := so
    simp only at ht hr hl8
    by_cases h0 : t.length = 0
    · refine VP.run (A := F7) (good) [] (by rw [hE]; rfl) (by simp [F7]) ?_; unfold F7; simp (implicitDefEqProofs := false) [enc_list, ho, hS, h0]
    · obtain ⟨l, f1, f2, f3, f4, f5⟩ := fewest_of ho hr (by rw [← ht]; omega) (by rw [← ht]; exact hl8)
      have hcut := fun h2 => fewest_cut ho h2 hr (by rw [← ht]; omega) (by rw [← ht]; exact hl8) f1
      rw [← ht] at f1 f3 hcut
      have hll : l.length ≤ 100 := by have := words_len o f2; rw [f3] at this; omega
      have hsd := said_of ho f2 hll
      rw [f3] at hsd
      have h00 : ¬ t = [] := fun h => h0 (by rw [h]; rfl)
      have g1 : ¬ m.length < l.length := by omega
      have g2 : ¬ (l.length = m.length) ∨ aheadB m l = false := by rcases f5 with h | h; exact .inl (by omega); exact .inr h.2
      have g3 : ∀ c : Bool, (decide (l.length = m.length) && c) = true → l.length = m.length := fun c h => by simp at h; exact h.1
      have p1 := o.p1
      have p2 := o.p2
      have key : ∀ n', b.Pieces.length = n' + 2 → VP E 7 [enc b, enc bits] (.bool true) := fun n' hn' => by
        have hn1 : ¬ b.Pieces.length = 1 := by omega
        have hn2 : ¬ (b.Pieces.length : Int) = 1 := by omega
        obtain ⟨P, hP⟩ : ∃ P, b.Pieces.dropLast = P := ⟨_, rfl⟩
        have hPl : P.length = n' + 1 := by rw [← hP, List.length_dropLast]; omega
        have hPt : b.Pieces.take P.length = P := by rw [hPl, ← hP, List.dropLast_eq_take, hn']; rfl
        have htk : List.take (P.length * 4) (encL b.Pieces) = encL P := by rw [take_Piece, hPt]
        have wl : IntKind.i64.wrap ((b.Pieces.length : Int) - 1) = P.length := by rw [wrap64 (by omega) (by omega)]; omega
        have hPb : P.length ≤ b.Pieces.length := by omega
        have hz : (P.length = 0) = False := eq_false (by omega)
        have hP0 : P ≠ [] := fun h => by rw [h] at hPl; simp at hPl
        have hel : (encL P = []) = False := by
          cases P with
          | nil => exact absurd rfl hP0
          | cons a l => simp [encL]
        have hf : fits P.length 48 = true := by unfold fits; simp; omega
        have hcB : cutB b = ⟨b.Discs, P, b.Pause, b.Rest⟩ := by unfold cutB; rw [hP]
        have hc2 := hcut (by omega)
        rw [hcB] at hc2
        refine VP.func (A := F7) (by rw [hE]; rfl) (by simp [F7]) ?_; unfold F7
        refine VW.seq (VW.run good [] ?_); simp (implicitDefEqProofs := false) [enc_list]
        refine VW.seq (VW.run good [] ?_); simp (implicitDefEqProofs := false) [enc_list, ho]
        refine VW.seq (VW.run good [] ?_); simp (implicitDefEqProofs := false) [enc_list, hS]
        refine VW.seq (VW.run good [] ?_); simp (implicitDefEqProofs := false) [enc_list, h0, h00]
        refine VW.seq (VW.run good [] ?_); simp (implicitDefEqProofs := false) [enc_list, f1]
        refine VW.seq (VW.run good [] ?_); simp (implicitDefEqProofs := false) [enc_list, hsd]
        refine VW.seq_cut [(2, .ptr 0 6 0), (5, enc t), (7, enc l)] [bcl b] (VW.run good [] ?_) ?_
        · rcases g2 with g2 | g2
          · have g2' : ¬ (l.length : Int) = (m.length : Int) := by omega
            simp (implicitDefEqProofs := false) [enc_list, f1, f2, f3, g1, g2, g2']
            exact ⟨1, [], by simp [enc_list], by simp, by simp, by simp (implicitDefEqProofs := false) [enc_list], by simp (implicitDefEqProofs := false) [enc_list]⟩
          · by_cases g4 : l.length = m.length
            · have g4' : ((l.length : Int) = (m.length : Int)) = True := eq_true (by omega)
              have g4'' : (l.length = m.length) = True := eq_true g4
              simp (implicitDefEqProofs := false) [enc_list, g1, g4', g4'', g2]
              exact ⟨1, [], by simp [enc_list], by simp, by simp, by simp (implicitDefEqProofs := false) [enc_list], by simp (implicitDefEqProofs := false) [enc_list]⟩
            · have g4' : ¬ (l.length : Int) = (m.length : Int) := by omega
              simp (implicitDefEqProofs := false) [enc_list, g1, g4, g4']
              exact ⟨1, [], by simp [enc_list], by simp, by simp, by simp (implicitDefEqProofs := false) [enc_list], by simp (implicitDefEqProofs := false) [enc_list]⟩
        refine VW.seq (VW.run good [] ?_); simp (implicitDefEqProofs := false) [enc_list, hn1, hn2]
        refine VW.seq_cut [(2, .ptr 0 6 0), (5, enc t), (7, enc l), (11, .ptr 1 6 0)] [bcl b, bcl b] (VW.run good [] ?_) ?_; simp (implicitDefEqProofs := false) [enc_list, spliceV]
        · exact ⟨2, [], by simp [enc_list], by simp, by simp, by simp (implicitDefEqProofs := false) [enc_list], by simp (implicitDefEqProofs := false) [enc_list]⟩
        refine VW.seq_cut [(2, .ptr 0 6 0), (5, enc t), (7, enc l), (11, .ptr 1 6 0)] [bcl b, .cells [enc b.Discs, .sl 2 (P.length * 4) 0 P.length (openCap + 4) 4, .int .i64 b.Pause.Low, .int .i64 b.Pause.High, .int .i64 b.Rest.Low, .int .i64 b.Rest.High], .vec (encL P)] (VW.run good [] ?_) ?_; simp (implicitDefEqProofs := false) [enc_list, wl, hPb, htk, hz, hf, hel, newVec, encL_isF, appendV, okE, elemsV, slV, boundV, numV, mOk, spliceV]
        · exact ⟨3, [], by simp [enc_list], by simp, by simp, by simp (implicitDefEqProofs := false) [enc_list], by simp (implicitDefEqProofs := false) [enc_list]⟩
        refine VW.freezeM (t := 2) (len := P.length * 4) (o := 0) (q := P.length) (cap := openCap + 4) (e := 4) (cs := [enc b.Discs, .sl 2 (P.length * 4) 0 P.length (openCap + 4) 4, .int .i64 b.Pause.Low, .int .i64 b.Pause.High, .int .i64 b.Rest.Low, .int .i64 b.Rest.High]) 1 1 rfl rfl (by decide) ?_
        obtain ⟨MM, hMM⟩ : ∃ MM : VM, [bcl b, .cells [enc b.Discs, .sl 2 (P.length * 4) 0 P.length (openCap + 4) 4, .int .i64 b.Pause.Low, .int .i64 b.Pause.High, .int .i64 b.Rest.Low, .int .i64 b.Rest.High], .vec (encL P)] = MM := ⟨_, rfl⟩
        have hfz : fzSl MM 2 (P.length * 4) 0 P.length (openCap + 4) 4 = .lst (openCap + 4 == P.length) P.length 4 (encL P) := by
          have := fzSl_vec (α := Piece) MM 2 P (by rw [← hMM]; rfl) (by decide)
          rwa [if_neg (by simpa using hP0)] at this
        rw [hMM, hfz, ← hMM]
        generalize (openCap + 4 == P.length) = bx
        have hX : (dec (PV.lst bx P.length 4 (encL P)) : Option (List Piece)) = some P := dec_lst bx P
        simp only [List.set_cons_succ, List.set_cons_zero]
        rcases hc2 with hc2 | ⟨q, q1, q2, q3, q4⟩
        · refine VW.run good [] ?_; simp (implicitDefEqProofs := false) [enc_list, hX, hc2]
        · have hco := cut_okB ho (show 2 ≤ b.Pieces.length by omega)
          rw [hcB] at hco
          have hql : q.length ≤ 100 := by
            have := words_len (okB_ok hco) q2
            rw [q3] at this; omega
          have hsq := said_of hco q2 hql
          rw [q3] at hsq
          refine VW.run good [] ?_; simp (implicitDefEqProofs := false) [enc_list, hX, q1, hsq, q4]
      by_cases hn : b.Pieces.length = 1
      · have hn' : (b.Pieces.length : Int) = 1 := by omega
        refine VP.func (A := F7) (by rw [hE]; rfl) (by simp [F7]) ?_; unfold F7
        refine VW.seq (VW.run good [] ?_); simp (implicitDefEqProofs := false) [enc_list]
        refine VW.seq (VW.run good [] ?_); simp (implicitDefEqProofs := false) [enc_list, ho]
        refine VW.seq (VW.run good [] ?_); simp (implicitDefEqProofs := false) [enc_list, hS]
        refine VW.seq (VW.run good [] ?_); simp (implicitDefEqProofs := false) [enc_list, h0, h00]
        refine VW.seq (VW.run good [] ?_); simp (implicitDefEqProofs := false) [enc_list, f1]
        refine VW.seq (VW.run good [] ?_); simp (implicitDefEqProofs := false) [enc_list, hsd]
        refine VW.seq_cut [(2, .ptr 0 6 0), (5, enc t), (7, enc l)] [bcl b] (VW.run good [] ?_) ?_
        · rcases g2 with g2 | g2
          · have g2' : ¬ (l.length : Int) = (m.length : Int) := by omega
            simp (implicitDefEqProofs := false) [enc_list, f1, f2, f3, g1, g2, g2']
            exact ⟨1, [], by simp [enc_list], by simp, by simp, by simp (implicitDefEqProofs := false) [enc_list], by simp (implicitDefEqProofs := false) [enc_list]⟩
          · by_cases g4 : l.length = m.length
            · have g4' : ((l.length : Int) = (m.length : Int)) = True := eq_true (by omega)
              have g4'' : (l.length = m.length) = True := eq_true g4
              simp (implicitDefEqProofs := false) [enc_list, g1, g4', g4'', g2]
              exact ⟨1, [], by simp [enc_list], by simp, by simp, by simp (implicitDefEqProofs := false) [enc_list], by simp (implicitDefEqProofs := false) [enc_list]⟩
            · have g4' : ¬ (l.length : Int) = (m.length : Int) := by omega
              simp (implicitDefEqProofs := false) [enc_list, g1, g4, g4']
              exact ⟨1, [], by simp [enc_list], by simp, by simp, by simp (implicitDefEqProofs := false) [enc_list], by simp (implicitDefEqProofs := false) [enc_list]⟩
        refine VW.run good [] ?_; simp (implicitDefEqProofs := false) [enc_list, hn, hn']
      · exact key (b.Pieces.length - 2) (by omega)
end Go.RS.DC

