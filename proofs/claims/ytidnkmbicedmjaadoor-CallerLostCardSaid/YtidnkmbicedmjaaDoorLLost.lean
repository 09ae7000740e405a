/- Walks: the laws: CallerLost. -/
import Derived.Test.YtidnkmbicedmjaaDoorLwv
import Derived.Test.YtidnkmbicedmjaaDoorPlq
import Derived.Test.YtidnkmbicedmjaaDoorPvb
set_option linter.all false
namespace Go.RS.CC
open Go Go.RS
open Go.RS.Enc (enc dec)
variable {E : VEnv}
theorem app_copy {α : Type} [El α] (M : VM) (bytes : Nat) (l : List α) (hne : l ≠ []) (hs : El.sz α ≠ 0) (hf : fits (0 + l.length) bytes = true) :
    appendV M (El.sz α) bytes (.lst true 0 0 []) (.lst false l.length (El.sz α) (encL l)) = some (.sl M.length (l.length * El.sz α) 0 l.length (openCap + El.sz α) (El.sz α), M ++ [.vec (encL l)]) := by
  have hn : ¬ l.length = 0 := fun h0 => hne (List.eq_nil_of_length_eq_zero h0)
  have hc : encL l ≠ [] := fun h0 => by have := congrArg List.length h0; rw [encL_length, List.length_nil] at this; exact Nat.mul_ne_zero hn hs this
  have he : elemsV M (El.sz α) (.lst false l.length (El.sz α) (encL l)) = some (l.length, encL l) := by simp [elemsV, okE]
  unfold appendV
  simp only [he]
  rw [if_pos ⟨trivial, by simp [okE]⟩, if_neg hn, if_pos hf]
  simp only [newVec, List.nil_append, Nat.zero_add]
  rw [if_pos ⟨encL_isF l, hc⟩]
  simp
theorem splice_El {α : Type} [El α] (l : List α) (k : Nat) (v : α) (h : k < l.length) : spliceV (encL l) (k * El.sz α) (El.cells v) = encL (l.set k v) := by
  unfold spliceV
  have e : k * El.sz α + (El.cells v).length = (k + 1) * El.sz α := by rw [El.len, Nat.add_mul, Nat.one_mul]
  rw [e, encL_take, encL_drop, List.set_eq_take_append_cons_drop, if_pos h, encL_snoc, encL_append]
  simp
abbrev sl1' {α : Type} (t : Nat) (out : List α) : PV := .sl t out.length 0 out.length (openCap + 1) 1
abbrev bkn (b : Book) (n0 n1 : Int) : VM := [bkc b, .cells [.int .i64 n0, .int .i64 n1]]
set_option maxHeartbeats 3200000 in
set_option maxRecDepth 20000 in
theorem l_Lost (hE : E.env.fn = G) (hW : WorksOk E) (b : Book) (n0 n1 : Int) : VP E 10 [enc b, .agg [.int .i64 n0, .int .i64 n1]] (.bool true) := by
  have good := goodV_cons (w_sound hE) (goodV_cons (w_works hW) (goodV_cons (w_hourly hE) (goodV_cons (w_ServeP hE) (goodV_cons (w_LostP hE) (goodV_cons (w_Climbs hE) (goodV_cons (w_Find hE) goodV_nil))))))
  by_cases ho : okR b = true
  · have bo := okR_ok ho
    obtain ⟨H, C, q, S, pk⟩ := pick_of ho n0 n1
    have hl1 := bo.h1
    have hS := pk.serve
    have hl := pk.len
    have h12 := pk.l12
    have hL : LostR b H C = (lostL 0 S, 0) := by unfold LostR; rw [hS]; rfl
    have hcl := lost_climbs S 0 0 q.length (by omega) (by omega) (by omega)
    have hmem := mem_lost S 0
    have hfirst := lost_first S 0
    have hnil := joined_of_lost S 0
    generalize hLL : lostL 0 S = L at *
    refine VP.run (A := F10) (good) [] (by rw [hE]; rfl) (by simp [F10]) ?_; unfold F10; simp (implicitDefEqProofs := false) [enc_list, spliceV, ho, hl1, pk.h, pk.c, hS, hL, pk.gl, pk.h0, pk.h1, hl, hcl]
    refine VW.loop_to 0 [(2, .ptr 0 6 0), (5, .int .i64 H), (6, .int .i64 C), (7, enc L), (8, .int .i64 0), (9, enc S), (11, enc q)] (bkn b n0 n1) (True) ?_ (fun hp f m hc => ?_)
    · obtain ⟨Inv, hI⟩ : ∃ Inv : Nat → List (Nat × PV) → VM → Prop, ∀ i f m, Inv i f m ↔ (f = [(2, .ptr 0 6 0), (5, .int .i64 H), (6, .int .i64 C), (7, enc L), (8, .int .i64 0), (9, enc S), (11, enc q), (12, .int .i64 i)] ∧ m = bkn b n0 n1) := ⟨_, fun _ _ _ => Iff.rfl⟩
      refine VW.loop_cut Inv S.length ?_ ?_ ?_
      · exact ⟨_, _, (hI _ _ _).2 ⟨rfl, rfl⟩, ⟨2, [], by simp [enc_list,  hl], by simp, by simp, by simp (implicitDefEqProofs := false) [enc_list,  hl], by simp (implicitDefEqProofs := false) [enc_list,  hl]⟩⟩
      · intro i f m hi hv
        obtain ⟨rfl, rfl⟩ := (hI _ _ _).1 hv
        have w1 : IntKind.i64.wrap ((i : Int) + 1) = i + 1 := wrap64 (by omega) (by omega)
        have hf : (0 ≤ findR (i : Int) 0 L) = (S[i].Joined < 0) := by
          apply propext
          rw [find_nneg, hmem]
          constructor
          · rintro ⟨j, hj, e, g⟩
            obtain rfl : i = j := by omega
            exact g
          · intro g; exact ⟨i, hi, by omega, g⟩
        refine VW.run good [] ?_; simp (implicitDefEqProofs := false) [enc_list, hi, get_Served S i hi, hf, w1]
        exact ⟨_, _, (hI _ _ _).2 ⟨rfl, rfl⟩, ⟨2, [], by simp [enc_list], by simp, by simp, by simp (implicitDefEqProofs := false) [enc_list], by simp (implicitDefEqProofs := false) [enc_list]⟩⟩
      · intro f m hv
        obtain ⟨rfl, rfl⟩ := (hI _ _ _).1 hv
        refine VW.run good [] ?_; simp (implicitDefEqProofs := false) [enc_list]
        exact ⟨2, [], by simp [enc_list], by simp, by simp, by simp (implicitDefEqProofs := false) [enc_list], by simp (implicitDefEqProofs := false) [enc_list]⟩
    · simp (implicitDefEqProofs := false)
      refine .ofCut hc ?_
      cases L with
      | nil => refine VW.run good [] ?_; simp (implicitDefEqProofs := false) [enc_list]
      | cons l0 L =>
        obtain ⟨i, hi, rfl, hneg, hpre⟩ := hfirst l0 L rfl
        simp only [Nat.zero_add] at *
        have hiq : i < q.length := by omega
        have hq0 : ¬ q.length = 0 := by omega
        have hqn : q ≠ [] := by intro h; rw [h] at hq0; exact hq0 rfl
        have hi0 : ¬ i = 0 := by
          rintro rfl
          obtain ⟨x1, x2, x3, x4, _⟩ := pk.sched.rng _ (List.getElem_mem hiq)
          have := (pk.sched.gave hiq hi hneg).full q[0].At (by omega) (by omega) 0 (by have := pk.c1; omega)
          simp [isFree] at this
        have hq20 : (q.length : Int) ≤ 20 := by omega
        have ha2 := asked_of ho (H := H) (C := q.length) pk.h0 pk.h1 (by omega) hq20
        have hL2 : LostR b H q.length = ([], 0) := by
          rw [LostR_of ha2, pk.hour, lostL_nil _ _ (serve_room q [] (by simp) pk.sched.rng (by simp))]
        have hget := pk.get
        have hgq : b.Hours[H.toNat]'pk.hh = q := by
          rw [List.getElem?_eq_getElem pk.hh] at hget
          exact Option.some.inj hget
        have ho' := okR_with ho pk.hh hgq hiq
        obtain ⟨q', hq'⟩ : ∃ q', q.set i (longer q[i]) = q' := ⟨_, rfl⟩
        have hql : q'.length = q.length := by rw [← hq']; simp
        rw [hq'] at ho'
        have ha' := asked_of ho' (H := H) (C := C) pk.h0 (by simp only [withHour, List.length_set]; exact pk.h1) pk.c1 pk.c2
        have hh' : hourOf (withHour b H.toNat q') H = q' := by
          unfold hourOf withHour
          simp only
          rw [List.getD_eq_getElem?_getD, List.getElem?_set_self pk.hh, Option.getD_some]
        have hS' : ServeR (withHour b H.toNat q') H C = (serveR b.Each C [] q', 0) := by rw [ServeR, if_pos ha', hh']; rfl
        have sch' : Sched b.Each C q' (serveR b.Each C [] q') := sched_of (b := withHour b H.toNat q') ho' (q := q') (by
          unfold withHour
          exact List.mem_of_getElem? (i := H.toNat) (by rw [List.getElem?_set_self pk.hh]))
        generalize serveR b.Each C [] q' = S' at *
        have hl' := sch'.len
        have hi' : i < S'.length := by omega
        have hiq' : i < q'.length := by omega
        have hx' : q'[i] = longer q[i] := by simp only [← hq']; rw [List.getElem_set_self]
        have hbef := pk.sched.same_before sch' i (fun k h h' hk => by simp only [← hq']; rw [List.getElem_set_ne (by omega)])
        have hlater := pk.sched.longer sch' pk.c1 hi hi' hiq hiq' (by omega) hx' (by
          apply List.ext_getElem
          · simp; omega
          · intro j g1 g2
            simp only [List.length_take] at g1 g2
            rw [List.getElem_take, List.getElem_take]
            exact hbef j (by omega) (by omega) (by omega)) hneg
        have hnl : ¬ S'[i].Joined ≤ S[i].Left := by omega
        have hHn : b.Hours ≠ [] := by intro h; rw [h] at hl1; simp at hl1
        have hl5 := bo.h2
        have fq : fits (0 + q.length) 32 = true := by simp [fits]; omega
        have fh : fits (0 + b.Hours.length) 24 = true := by simp [fits]; omega
        have ac1 := fun M => app_copy M 24 b.Hours hHn (by decide) fh
        have ac2 := fun M => app_copy M 32 q hqn (by decide) fq
        simp only [sz_list, sz_Call, Nat.mul_one] at ac1 ac2
        have hLp : ¬ (L.length : Int) + 1 = 0 := by omega
        have hLp2 : (0 : Int) < L.length + 1 := by omega
        have hcons : encL ((i : Int) :: L) = .int .i64 i :: encL L := rfl
        refine VW.seq (VW.run good [] ?_); simp (implicitDefEqProofs := false) [enc_list, hq0, hLp]
        refine VW.seq (VW.run good [] ?_); simp (implicitDefEqProofs := false) [enc_list, hL2]
        refine VW.seq_cut [(2, .ptr 0 6 0), (5, .int .i64 H), (6, .int .i64 C), (7, enc ((i : Int) :: L)), (9, enc S), (11, enc q), (13, enc ([] : List Int)), (8, .int .i64 0), (14, .ptr 2 6 0)] (bkn b n0 n1 ++ [bkc b]) (VW.run good [] ?_) ?_; simp (implicitDefEqProofs := false) [enc_list, spliceV]
        · exact ⟨3, [], by simp [enc_list], by simp, by simp, by simp (implicitDefEqProofs := false) [enc_list], by simp (implicitDefEqProofs := false) [enc_list]⟩
        refine VW.seq_cut [(2, .ptr 0 6 0), (5, .int .i64 H), (6, .int .i64 C), (7, enc ((i : Int) :: L)), (9, enc S), (11, enc q), (13, enc ([] : List Int)), (8, .int .i64 0), (14, .ptr 2 6 0)] (bkn b n0 n1 ++ [.cells [.int .i64 b.Each, .int .i64 b.Fee, .int .i64 b.Rate, .int .i64 b.Unit, enc b.Shares, sl1' 3 b.Hours], .vec (encL b.Hours)]) (VW.run good [] ?_) ?_; simp (implicitDefEqProofs := false) [enc_list, spliceV, ac1]
        · exact ⟨4, [], by simp [enc_list], by simp, by simp, by simp (implicitDefEqProofs := false) [enc_list], by simp (implicitDefEqProofs := false) [enc_list]⟩
        refine VW.seq_cut [(2, .ptr 0 6 0), (5, .int .i64 H), (6, .int .i64 C), (7, enc ((i : Int) :: L)), (9, enc S), (13, enc ([] : List Int)), (8, .int .i64 0), (14, .ptr 2 6 0), (15, .sl 4 (q.length * 4) 0 q.length (openCap + 4) 4)] (bkn b n0 n1 ++ [.cells [.int .i64 b.Each, .int .i64 b.Fee, .int .i64 b.Rate, .int .i64 b.Unit, enc b.Shares, sl1' 3 b.Hours], .vec (encL b.Hours), .vec (encL q)]) (VW.run good [] ?_) ?_; simp (implicitDefEqProofs := false) [enc_list, spliceV, ac2]
        · exact ⟨5, [], by simp [enc_list], by simp, by simp, by simp (implicitDefEqProofs := false) [enc_list], by simp (implicitDefEqProofs := false) [enc_list]⟩
        have hq0' : 0 < q.length := by omega
        have hle4 : i * 4 + 4 ≤ q.length * 4 := by omega
        have hpos4 : 0 < q.length * 4 := by omega
        have hgc := get_Call q i hiq
        have hsp := splice_El q i (longer q[i]) hiq
        simp only [sz_Call, cells_Call, longer, enc_int] at hsp
        have hqc : q' = q.set i ⟨q[i].At, 3600, q[i].Hear, q[i].From⟩ := by rw [← hq']; rfl
        refine VW.seq_cut [(2, .ptr 0 6 0), (5, .int .i64 H), (6, .int .i64 C), (7, enc ((i : Int) :: L)), (9, enc S), (13, enc ([] : List Int)), (8, .int .i64 0), (14, .ptr 2 6 0), (15, .sl 4 (q.length * 4) 0 q.length (openCap + 4) 4), (16, .ptr 5 4 0)] (bkn b n0 n1 ++ [.cells [.int .i64 b.Each, .int .i64 b.Fee, .int .i64 b.Rate, .int .i64 b.Unit, enc b.Shares, sl1' 3 b.Hours], .vec (encL b.Hours), .vec (encL q), .cells (El.cells q[i])]) (VW.run good [] ?_) ?_; simp (implicitDefEqProofs := false) [enc_list, spliceV, hLp2, hcons, hiq, hq0', hgc, hle4]
        · exact ⟨6, [], by simp [enc_list], by simp, by simp, by simp (implicitDefEqProofs := false) [enc_list], by simp (implicitDefEqProofs := false) [enc_list]⟩
        refine VW.seq_cut [(2, .ptr 0 6 0), (5, .int .i64 H), (6, .int .i64 C), (7, enc ((i : Int) :: L)), (9, enc S), (13, enc ([] : List Int)), (8, .int .i64 0), (14, .ptr 2 6 0), (15, .sl 4 (q.length * 4) 0 q.length (openCap + 4) 4), (16, .ptr 5 4 0)] (bkn b n0 n1 ++ [.cells [.int .i64 b.Each, .int .i64 b.Fee, .int .i64 b.Rate, .int .i64 b.Unit, enc b.Shares, sl1' 3 b.Hours], .vec (encL b.Hours), .vec (encL q), .cells (El.cells (longer q[i]))]) (VW.run good [] ?_) ?_; simp (implicitDefEqProofs := false) [enc_list, spliceV]
        · exact ⟨6, [], by simp [enc_list,  longer], by simp, by simp, by simp (implicitDefEqProofs := false) [enc_list,  longer], by simp (implicitDefEqProofs := false) [enc_list,  longer]⟩
        refine VW.seq_cut [(2, .ptr 0 6 0), (5, .int .i64 H), (6, .int .i64 C), (7, enc ((i : Int) :: L)), (9, enc S), (13, enc ([] : List Int)), (8, .int .i64 0), (14, .ptr 2 6 0), (15, .sl 4 (q'.length * 4) 0 q'.length (openCap + 4) 4)] (bkn b n0 n1 ++ [.cells [.int .i64 b.Each, .int .i64 b.Fee, .int .i64 b.Rate, .int .i64 b.Unit, enc b.Shares, sl1' 3 b.Hours], .vec (encL b.Hours), .vec (encL q')]) (VW.run good [] ?_) ?_; simp (implicitDefEqProofs := false) [enc_list, hLp2, hcons, hiq, hq0', longer, hsp, hle4]
        · exact ⟨5, [], by simp [enc_list,  hqc], by simp, by simp, by simp (implicitDefEqProofs := false) [enc_list,  hqc], by simp (implicitDefEqProofs := false) [enc_list,  hqc]⟩
        refine VW.freeze 15 (t := 4) (len := q'.length * 4) (o := 0) (q := q'.length) (cap := openCap + 4) (e := 4) (by simp) ?_
        refine VW.less [(2, .ptr 0 6 0), (5, .int .i64 H), (6, .int .i64 C), (7, enc ((i : Int) :: L)), (9, enc S), (13, enc ([] : List Int)), (8, .int .i64 0), (14, .ptr 2 6 0), (15, enc q')] (by simp (implicitDefEqProofs := false) [enc_list]) ?_
        have hgl := pk.gl
        have hsh := splice_El b.Hours H.toNat q' pk.hh
        simp only [sz_list, cells_list, Nat.mul_one] at hsh
        have hsh2 : spliceV (encL b.Hours) H.toNat [PV.lst false q'.length 4 (encL q')] = encL (b.Hours.set H.toNat q') := hsh
        have hH0 := pk.h0
        have hH1 := pk.h1
        have hHp : 0 < b.Hours.length := by omega
        have hHle : H.toNat + 1 ≤ b.Hours.length := pk.hh
        refine VW.seq_cut [(2, .ptr 0 6 0), (5, .int .i64 H), (6, .int .i64 C), (7, enc ((i : Int) :: L)), (9, enc S), (13, enc ([] : List Int)), (8, .int .i64 0), (14, .ptr 2 6 0)] (bkn b n0 n1 ++ [.cells [.int .i64 b.Each, .int .i64 b.Fee, .int .i64 b.Rate, .int .i64 b.Unit, enc b.Shares, sl1' 3 (b.Hours.set H.toNat q')], .vec (encL (b.Hours.set H.toNat q'))]) (VW.run good [] ?_) ?_; simp (implicitDefEqProofs := false) [enc_list, hH0, hH1, hHp, hHle, hsh]
        · exact ⟨4, [], by simp [enc_list,  enc_list, hsh2], by simp, by simp, by simp (implicitDefEqProofs := false) [enc_list,  enc_list, hsh2], by simp (implicitDefEqProofs := false) [enc_list,  enc_list, hsh2]⟩
        have hnn : ¬ (b.Hours.set H.toNat q').length = 0 := by simp only [List.length_set]; omega
        have hcap : (openCap + 1 == (b.Hours.set H.toNat q').length) = false := by have := openCap_eq; simp only [List.length_set, beq_eq_false_iff_ne, ne_eq]; omega
        have hfz := fzSl_vec (bkn b n0 n1 ++ [.cells [.int .i64 b.Each, .int .i64 b.Fee, .int .i64 b.Rate, .int .i64 b.Unit, enc b.Shares, sl1' 3 (b.Hours.set H.toNat q')], .vec (encL (b.Hours.set H.toNat q'))]) 3 (b.Hours.set H.toNat q') rfl (by simp)
        simp only [sz_list, Nat.mul_one] at hfz
        rw [if_neg hnn, hcap] at hfz
        refine VW.freezeM 2 5 (t := 3) (len := (b.Hours.set H.toNat q').length) (o := 0) (q := (b.Hours.set H.toNat q').length) (cap := openCap + 1) (e := 1) rfl rfl (by decide) ?_
        rw [hfz]
        refine .ofCut (l := [(2, .ptr 0 6 0), (5, .int .i64 H), (6, .int .i64 C), (7, enc ((i : Int) :: L)), (9, enc S), (13, enc ([] : List Int)), (8, .int .i64 0), (14, .ptr 2 6 0)]) (M := bkn b n0 n1 ++ [bkc (withHour b H.toNat q')]) ⟨3, [], by simp [withHour, enc_list], by simp, by simp, by simp (implicitDefEqProofs := false) [enc_list], by simp (implicitDefEqProofs := false) [enc_list]⟩ ?_
        refine VW.seq_cut [(2, .ptr 0 6 0), (5, .int .i64 H), (6, .int .i64 C), (7, enc ((i : Int) :: L)), (9, enc S), (13, enc ([] : List Int)), (8, .int .i64 0), (10, .int .i64 0), (17, enc S')] (bkn b n0 n1) (VW.run good [] ?_) ?_; simp (implicitDefEqProofs := false) [enc_list, show ServeR ⟨b.Each, b.Fee, b.Rate, b.Unit, b.Shares, b.Hours.set H.toNat q'⟩ H C = (S', 0) from hS', withHour]
        · exact ⟨2, [], by simp [enc_list], by simp, by simp, by simp (implicitDefEqProofs := false) [enc_list], by simp (implicitDefEqProofs := false) [enc_list]⟩
        have hSS : S'.length = S.length := by omega
        have hgS := get_Served S i hi
        have hgS' := get_Served S' i hi'
        refine VW.seq (VW.run good [] ?_); simp (implicitDefEqProofs := false) [enc_list, hLp2, hcons, hi0, hSS, hi, hgS, hgS', hnl]
        refine VW.run good [] ?_; simp (implicitDefEqProofs := false) [enc_list]
        refine VW.loop_to 2 [] [] (True) ?_ (fun hp f m hc => ?_)
        · obtain ⟨Inv, hI⟩ : ∃ Inv : Nat → List (Nat × PV) → VM → Prop, ∀ k f m, Inv k f m ↔ (f = [(7, enc ((i : Int) :: L)), (9, enc S), (17, enc S'), (18, .int .i64 k)] ∧ m = []) := ⟨_, fun _ _ _ => Iff.rfl⟩
          refine VW.loop_cut Inv i ?_ ?_ ?_
          · exact ⟨_, _, (hI _ _ _).2 ⟨rfl, rfl⟩, ⟨0, [], by simp [enc_list,  hSS, hcons], by simp, by simp, by simp (implicitDefEqProofs := false) [enc_list,  hSS, hcons], by simp (implicitDefEqProofs := false) [enc_list,  hSS, hcons]⟩⟩
          · intro k f m hki hv
            obtain ⟨rfl, rfl⟩ := (hI _ _ _).1 hv
            have w1 : IntKind.i64.wrap ((k : Int) + 1) = k + 1 := wrap64 (by omega) (by omega)
            have hk1 : k < S.length := by omega
            have hk2 : k < S'.length := by omega
            have hgk := get_Served S' k hk2
            rw [hbef k hk1 hk2 hki] at hgk
            refine VW.run good [] ?_; simp (implicitDefEqProofs := false) [enc_list, hLp2, hcons, hki, hk1, hk2, get_Served S k hk1, hgk, w1]
            exact ⟨_, _, (hI _ _ _).2 ⟨rfl, rfl⟩, ⟨0, [], by simp [enc_list,  hcons], by simp, by simp, by simp (implicitDefEqProofs := false) [enc_list,  hcons], by simp (implicitDefEqProofs := false) [enc_list,  hcons]⟩⟩
          · intro f m hv
            obtain ⟨rfl, rfl⟩ := (hI _ _ _).1 hv
            refine VW.run good [] ?_; simp (implicitDefEqProofs := false) [enc_list, hLp2, hcons]
            exact ⟨0, [], by simp [enc_list], by simp, by simp, by simp (implicitDefEqProofs := false) [enc_list], by simp (implicitDefEqProofs := false) [enc_list]⟩
        · simp (implicitDefEqProofs := false); refine .ofCut hc (VW.run good [] ?_); simp (implicitDefEqProofs := false) [enc_list]
  · refine VP.run (A := F10) (good) [] (by rw [hE]; rfl) (by simp [F10]) ?_; unfold F10; simp (implicitDefEqProofs := false) [enc_list, ho]
end Go.RS.CC

