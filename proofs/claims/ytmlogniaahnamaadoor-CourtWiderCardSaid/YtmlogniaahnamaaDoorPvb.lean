/- The value machine against the abstract machine (6): every operation. -/
import Derived.Test.YtmlogniaahnamaaDoorPva
set_option linter.all false
namespace Go.RS
open Go

section
variable {Z : Nat → Prop} {n lo k : Nat} {ρ ρ' : Nat → Nat} {M M' : VM} {h h' : AH} {E : VEnv} {fr : VFr} {bf : Fr}

theorem growPush (h : AH) (o : AObj) : Grow h (h.push o) := ⟨by simp, fun b hb => by rw [Array.getElem?_push, if_neg (by omega)]⟩
theorem parts_rel (m : Mem Z n ρ M h E lo) (F : FR Z n ρ M h fr bf) (ps : List (Nat × Nat × Opd)) : (ps.map fun p => (p.1, p.2.1, p.2.2.evV E fr)).length = (ps.map fun p => (p.1, p.2.1, p.2.2.ev bf)).length ∧
    ∀ (i : Nat) p q, (ps.map fun p => (p.1, p.2.1, p.2.2.evV E fr))[i]? = some p → (ps.map fun p => (p.1, p.2.1, p.2.2.ev bf))[i]? = some q → p.1 = q.1 ∧ p.2.1 = q.2.1 ∧ PR Z n ρ M h p.2.2 q.2.2 := by
  refine ⟨by simp, fun i p q a b => ?_⟩
  rw [List.getElem?_map] at a b
  cases hp : ps[i]? with
  | none => rw [hp] at a; cases a
  | some x => rw [hp] at a b; cases a; cases b; exact ⟨rfl, rfl, opd_pr m F _⟩
theorem ofS_lr (ws : List Value) : LR Z n ρ M h (ws.map PV.ofS) ws := (ofS_lf ws).lr
theorem ptr_of {t len o : Nat} {w : Value} (p : PR Z n ρ M h (.ptr t len o) w) : ∃ b, w = .pointer (some ⟨b, o, none⟩) ∧ PtrOk ρ M t len b := by
  cases p with
  | f p => cases p
  | ptr hp => exact ⟨_, rfl, hp⟩
theorem lptr_of {cs : List PV} {w : Value} (p : PR Z n ρ M h (.lptr cs) w) : ∃ b o c, w = .pointer (some ⟨b, o, none⟩) ∧ Zf Z n ρ M b ∧ h[b]? = some (.cells c) ∧ o + cs.length ≤ c.length ∧ LF (Zf Z n ρ M) h cs ((c.drop o).take cs.length) := by
  cases p with
  | f p =>
    cases p with
    | @lptr _ b o c c' hz hb ho hs hl hc =>
      have : c'.length ≤ c.length - o := by rw [hs]; simp; omega
      subst hs
      exact ⟨b, o, c, rfl, hz, hb, by omega, hl.symm, hc⟩
theorem lptr_drop {cs : List PV} {b o : Nat} {c : List Value} (hz : Zf Z n ρ M b) (hb : h[b]? = some (.cells c)) (ho : o + cs.length ≤ c.length) (hL : LF (Zf Z n ρ M) h cs ((c.drop o).take cs.length)) {d : Nat} (hd : d ≤ cs.length) :
    PR Z n ρ M h (.lptr (cs.drop d)) (.pointer (some ⟨b, o + d, none⟩)) := by
  have e : ((c.drop o).take cs.length).drop d = (c.drop (o + d)).take (cs.drop d).length := by
    rw [List.drop_take, List.drop_drop, List.length_drop]
  have := hL.drop d
  rw [e] at this
  exact .f (.lptr hz hb (by omega) rfl this.1.symm this.2)
theorem lst_of {ex : Bool} {q el : Nat} {cs : List PV} {w : Value} (p : PR Z n ρ M h (.lst ex q el cs) w) : (q = 0 ∧ cs = [] ∧ w = .slice none 0 0) ∨
    ∃ b o cap c, w = .slice (some ⟨b, o, none⟩) q cap ∧ Zf Z n ρ M b ∧ h[b]? = some (.cells c) ∧ o + cs.length ≤ c.length ∧ LF (Zf Z n ρ M) h cs ((c.drop o).take cs.length) ∧ q < 9223372036854775808 ∧ q ≤ cap ∧ (ex = true → cap = q) ∧ (openCap < cap → cap = openCap + el) ∧ cs.length = q * el := by
  cases p with
  | f p =>
    cases p with
    | lst0 => exact .inl ⟨rfl, rfl, rfl⟩
    | @lst _ _ _ _ b o cap c c' hne hz hb ho hs hl hc hn hcap hex hop =>
      have : c'.length ≤ c.length - o := by rw [hs]; simp; omega
      subst hs
      exact .inr ⟨b, o, cap, c, rfl, hz, hb, by omega, ⟨hl.symm, hc⟩, hn, hcap, hex, hop, hne⟩
theorem sl_of {t len o q cap e : Nat} {w : Value} (p : PR Z n ρ M h (.sl t len o q cap e) w) : (len = 0 ∧ o = 0 ∧ q = 0 ∧ w = .slice none 0 0 ∧ t < M.length) ∨ ∃ b, w = .slice (some ⟨b, o, none⟩) q cap ∧ PtrOk ρ M t len b ∧ 0 < len ∧ q < 9223372036854775808 ∧ q ≤ cap := by
  cases p with
  | f p => cases p
  | sl0 ht => exact .inl ⟨rfl, rfl, rfl, rfl, ht⟩
  | sl hp hl hm hc => exact .inr ⟨_, rfl, hp, hl, hm, hc⟩
/-- A part of a list that cannot be written. -/
theorem lst_part {ex : Bool} {cap e : Nat} {cs : List PV} {b o : Nat} {c : List Value} (hz : Zf Z n ρ M b) (hb : h[b]? = some (.cells c)) (ho : o + cs.length ≤ c.length) (hL : LF (Zf Z n ρ M) h cs ((c.drop o).take cs.length)) {d s o' i : Nat} (hd : d + s ≤ cs.length) (ho' : o' ≤ c.length) (hs : s = 0 ∨ o' = o + d)
    (hn : i < 9223372036854775808) (hcap : i ≤ cap) (hex : ex = true → cap = i) (hop : openCap < cap → cap = openCap + e) (hse : s = i * e) : PR Z n ρ M h (.lst ex i e ((cs.drop d).take s)) (.slice (some ⟨b, o', none⟩) i cap) := by
  have hlen : ((cs.drop d).take s).length = s := by simp; omega
  rcases hs with rfl | rfl
  · simp only [List.take_zero] at hlen ⊢
    exact .f (.lst (by simpa using hse) hz hb ho' (c' := []) (by simp) rfl (fun i v v' a => by simp at a) hn hcap hex hop)
  · have e : (((c.drop o).take cs.length).drop d).take s = (c.drop (o + d)).take ((cs.drop d).take s).length := by
      rw [List.drop_take, List.take_take, List.drop_drop, hlen, Nat.min_eq_left (by omega)]
    have := (hL.drop d).take s
    rw [e] at this
    exact .f (.lst (by rw [hlen]; exact hse) hz hb ho' rfl this.1.symm this.2 hn hcap hex hop)

theorem minmax_rel {mx : Bool} : ∀ {more : List Opd} {x v : PV} {x' : Value} (m : Mem Z n ρ M h E lo) (F : FR Z n ρ M h fr bf), PR Z n ρ M h x x' → more.foldlM (fun a y => minmaxV mx a (y.evV E fr)) x = some v →
    ∃ w, more.foldlM (fun a y => minmax2 mx a (y.ev bf)) x' = some w ∧ PR Z n ρ M h v w
  | [], x, v, x', m, F, p, hv => by
    simp only [List.foldlM_nil] at hv ⊢
    cases hv
    exact ⟨x', rfl, p⟩
  | y :: more, x, v, x', m, F, p, hv => by
    simp only [List.foldlM_cons, Option.bind_eq_bind, Option.bind_eq_some_iff] at hv
    obtain ⟨a, h1, h2⟩ := hv
    have q := opd_pr m F y
    have key : ∃ a', minmax2 mx x' (y.ev bf) = some a' ∧ PR Z n ρ M h a a' := by
      generalize y.evV E fr = yv at h1 q
      unfold minmaxV at h1
      split at h1
      · rename_i k1 i1 k2 i2
        split at h1
        · rename_i hk
          cases h1
          rw [p.int_inv, q.int_inv]
          exact ⟨_, by simp only [minmax2, if_pos hk], .f (.int _ _)⟩
        · cases h1
      · cases h1
    obtain ⟨a', g1, g2⟩ := key
    obtain ⟨w, g3, g4⟩ := minmax_rel (more := more) m F g2 h2
    refine ⟨w, ?_, g4⟩
    simp only [List.foldlM_cons, Option.bind_eq_bind, g1, Option.bind_some]
    exact g3

theorem aop_extra (m : Mem Z n ρ M h E lo) (F : FR Z n ρ M h fr bf) {mu : Bool} {op : AOp} {v : PV} (hv : aopV E mu op fr M = some (v, M')) : VS Z n ρ M h E lo v M' (aop lo op bf h) := by
  have hoe0 := openCap_eq
  cases op with
  | mov x => cases hv; exact .quiet m (opd_pr m F x)
  | pick c a b =>
    have p := opd_pr m F c
    simp only [aopV] at hv
    split at hv
    · rename_i t ht
      rw [ht] at p
      cases hv
      simp only [aop, p.bool_inv]
      cases t
      · exact .quiet m (opd_pr m F b)
      · exact .quiet m (opd_pr m F a)
    · cases hv
  | alloc z =>
    simp only [aopV] at hv
    cases hv
    refine .push m ⟨z, rfl, ofS_lr z⟩ (.ptr ?_)
    have := ptr_newV (ρ := ρ) (M := M) (o := .cells (z.map PV.ofS)) rfl h.size
    simpa using this
  | box x =>
    simp only [aopV, Option.map_eq_some_iff, Prod.mk.injEq] at hv
    obtain ⟨c, hc, rfl, rfl⟩ := hv
    have hL := cellsOf_rel hc (opd_pr m F x)
    exact .push m ⟨_, rfl, hL.up (push_up m _ _)⟩ (.ptr (ptr_newV rfl _))
  | build z ps =>
    simp only [aopV, Option.map_eq_some_iff, Prod.mk.injEq] at hv
    obtain ⟨c, hc, rfl, rfl⟩ := hv
    obtain ⟨d, h1, h2⟩ := fill_prl (parts_rel m F ps) (ofS_lr z) hc
    simp only [aop, h1, Option.map_some]
    exact .quiet m (.agg' (by simpa using h2))
  | buildSlice q z ps =>
    simp only [aopV] at hv
    split at hv
    · cases hv
    · rename_i c hc
      obtain ⟨d, h1, h2⟩ := fill_prl (parts_rel m F ps) (ofS_lr z) hc
      split at hv
      · rename_i hcond
        simp only [aop, h1, Option.map_some]
        split at hv
        · rename_i hmu
          cases hv
          exact .push m ⟨_, rfl, (h2.toF hcond.2.1).up (push_up m _ _)⟩ (.sl (ptr_newV rfl _) (List.length_pos_iff.2 hmu.2) hcond.1 (Nat.le_refl _))
        · split at hv
          · rename_i hmu
            cases hv
            obtain ⟨_, rfl⟩ := hmu
            have hg : Grow h (h.push (.cells d)) := growPush h _
            obtain ⟨q1, q2⟩ := m.grow (Nat.le_refl M.length) hg
            have hz : Zf Z n ρ M h.size := ⟨fun hx => by have := m.nh; omega, fun hx => by have := (m.own_lt hx).2; omega⟩
            exact ⟨_, _, ρ, rfl, .f (.emp (c := d) hz (by simp) (Nat.zero_le _)), q1, q2⟩
          cases hv
          have hg : Grow h (h.push (.cells d)) := growPush h _
          obtain ⟨q1, q2⟩ := m.grow (Nat.le_refl M.length) hg
          have hz : Zf Z n ρ M h.size := ⟨fun hx => by have := m.nh; omega, fun hx => by have := (m.own_lt hx).2; omega⟩
          have hL := (h2.toF hcond.2.1).up q2
          refine ⟨_, _, ρ, rfl, .f (.lst (c := d) (c' := d) hcond.2.2 hz (by simp) (Nat.zero_le _) ?_ hL.1.symm hL.2 hcond.1 (Nat.le_refl _) (fun _ => rfl) (fun hx => by omega)), q1, q2⟩
          rw [List.drop_zero, hL.1, List.take_length]
      · split at hv
        · rename_i hmu
          cases hv
          simp only [aop, h1, Option.map_some]
          exact .push m ⟨_, rfl, h2.up (push_up m _ _)⟩ (.sl (ptr_newV rfl _) (List.length_pos_iff.2 hmu.2.1) hmu.2.2.1 (Nat.le_refl _))
        · cases hv
  | load agg a =>
    simp only [aopV, Option.map_eq_some_iff, Prod.mk.injEq] at hv
    obtain ⟨v0, h1, rfl, rfl⟩ := hv
    obtain ⟨b, o, w, h2, h3, h4⟩ := loadV_rel m (opd_pr m F a) h1
    rw [aop_loadA h2, h3]
    exact .quiet m h4
  | store q a x =>
    simp only [aopV, Option.map_eq_some_iff, Prod.mk.injEq] at hv
    obtain ⟨M1, h1, rfl, rfl⟩ := hv
    obtain ⟨h', g1, g2, g3⟩ := storeV_rel m (Nat.le_refl _) (opd_pr m F a) (opd_pr m F x) h1
    exact ⟨_, h', ρ, g1, .f (.undef _), g2, g3⟩
  | nilCheck x =>
    have p := opd_pr m F x
    simp only [aopV] at hv
    split at hv
    · rename_i hx; rw [hx] at p; cases hv; obtain ⟨b, hb, hp⟩ := ptr_of p; simp only [aop, hb]; exact .quiet m (.ptr hp)
    · rename_i hx; rw [hx] at p; cases hv; obtain ⟨b, o, c, hb, _⟩ := lptr_of p; rw [hb] at p; simp only [aop, hb]; exact .quiet m p
    · cases hv
  | bin op x y =>
    have px := opd_pr m F x
    have py := opd_pr m F y
    simp only [aopV, Option.map_eq_some_iff, Prod.mk.injEq] at hv
    obtain ⟨v0, h1, rfl, rfl⟩ := hv
    simp only [aop]
    unfold binV at h1
    split at h1
    · rename_i hx hy
      rw [hx] at px; rw [hy] at py
      split at h1
      · rename_i hk
        simp only [Option.map_eq_some_iff] at h1
        obtain ⟨w, h2, rfl⟩ := h1
        rw [px.int_inv, py.int_inv]
        simp only [binA, if_pos hk, h2, Option.map_some]
        exact .quiet m (.f (ofS_pf w))
      · cases h1
    · rename_i hx hy
      rw [hx] at px; rw [hy] at py
      simp only [Option.map_eq_some_iff] at h1
      obtain ⟨w, h2, rfl⟩ := h1
      rw [px.str_inv, py.str_inv]
      simp only [binA, h2, Option.map_some]
      exact .quiet m (.f (ofS_pf w))
    · cases h1
  | eqBool neg x y =>
    have px := opd_pr m F x
    have py := opd_pr m F y
    simp only [aopV] at hv
    split at hv
    · rename_i hx hy
      rw [hx] at px; rw [hy] at py
      cases hv
      simp only [aop, px.bool_inv, py.bool_inv]
      exact .quiet m (.f (.bool _))
    · cases hv
  | eqAgg neg ks x y =>
    simp only [aopV, Option.map_eq_some_iff, Prod.mk.injEq] at hv
    obtain ⟨b, h1, rfl, rfl⟩ := hv
    simp only [aop, keyEq_rel (opd_pr m F x) (opd_pr m F y) h1, Option.map_some]
    exact .quiet m (.f (.bool _))
  | eqNil kk neg x y =>
    simp only [aopV, Option.map_eq_some_iff, Prod.mk.injEq] at hv
    obtain ⟨b, h1, rfl, rfl⟩ := hv
    simp only [aop, eqNil_rel (opd_pr m F x) (opd_pr m F y) h1, Option.map_some]
    exact .quiet m (.f (.bool _))
  | un op x =>
    have px := opd_pr m F x
    simp only [aopV, Option.map_eq_some_iff, Prod.mk.injEq] at hv
    obtain ⟨v0, h1, rfl, rfl⟩ := hv
    simp only [aop]
    unfold unV at h1
    split at h1
    · rename_i hx; rw [hx] at px; cases h1; rw [px.int_inv]; exact .quiet m (.f (.int _ _))
    · rename_i hx; rw [hx] at px; cases h1; rw [px.bool_inv]; exact .quiet m (.f (.bool _))
    · cases h1
  | conv kk x =>
    have px := opd_pr m F x
    simp only [aopV] at hv
    split at hv
    · rename_i hx; rw [hx] at px; cases hv; simp only [aop, px.int_inv]; exact .quiet m (.f (.int _ _))
    · cases hv
  | makeFunc fn first cap =>
    simp only [aopV] at hv
    cases hv
    exact .quiet m (.func' (by simpa using LR.mapO fun x _ => opd_pr m F x) (by simpa using LR.mapO fun x _ => opd_pr m F x))
  | makeMap =>
    simp only [aopV] at hv
    cases hv
    exact .push m ⟨[], rfl, rfl, fun i e e' a => by simp at a⟩ (.map (by simp) fun es kk hk => (rset_same _ _).symm)
  | makeSlice z bytes len cap =>
    have pl := opd_pr m F len
    have pc := opd_pr m F cap
    simp only [aopV] at hv
    split at hv
    · rename_i l c hl hc
      rw [hl] at pl; rw [hc] at pc
      simp only [aop, pl.int_inv, pc.int_inv]
      split at hv
      · rename_i hcond
        obtain ⟨c1, c2, c3, c4, c5⟩ := hcond
        rw [if_pos ⟨c1, c2, c3, c4⟩]
        have hop : c.toNat < 9223372036854775808 := by omega
        split at hv
        · rename_i h0
          split at hv
          · cases hv
          · rename_i hz
            cases hv
            have hc0 : c = 0 := h0.resolve_right hz
            subst hc0
            have hl0 : l = 0 := by omega
            subst hl0
            have hg : Grow h (h.push (.cells ((List.range ((0 : Int).toNat * z.length)).map fun i => z.getD (i % z.length) undef))) := growPush h _
            obtain ⟨q1, q2⟩ := m.grow (Nat.le_refl M.length) hg
            have hzf : Zf Z n ρ M h.size := ⟨fun hx => by have := m.nh; omega, fun hx => by have := (m.own_lt hx).2; omega⟩
            exact ⟨_, _, ρ, rfl, .f (.lst (c' := []) (by simp) hzf (by simp; rfl) (Nat.zero_le _) (by simp) rfl (fun i v v' a => by simp at a) hop (Nat.le_refl _) (fun _ => rfl) (fun hx => by simp at hx)), q1, q2⟩
        · rename_i h0
          cases hv
          have hLz : ∀ Z' : Nat → Prop, ∀ h' : AH, LF Z' h' ((List.range (c.toNat * z.length)).map fun i => PV.ofS (z.getD (i % z.length) undef)) ((List.range (c.toNat * z.length)).map fun i => z.getD (i % z.length) undef) := by
            intro Z' h'
            refine ⟨by simp, fun i v v' a b => ?_⟩
            rw [List.getElem?_map] at a b
            cases hi : (List.range (c.toNat * z.length))[i]? with
            | none => rw [hi] at a; cases a
            | some j => rw [hi] at a b; cases a; cases b; exact ofS_pf _
          have hpos : 0 < c.toNat * z.length := by
            have h1 : 0 < c.toNat := by
              have : c ≠ 0 := fun he => h0 (.inl he)
              omega
            have h2 : 0 < z.length := List.length_pos_iff.2 fun he => h0 (.inr he)
            exact Nat.mul_pos h1 h2
          cases mu with
          | false =>
            have pk := ptr_newV (ρ := ρ) (M := M) (o := .vec ((List.range (c.toNat * z.length)).map fun i => PV.ofS (z.getD (i % z.length) undef))) rfl h.size
            simp only [List.length_map, List.length_range] at pk
            exact .push m ⟨_, rfl, hLz _ _⟩ (.sl pk hpos (by omega) (by omega))
          | true =>
            have pk := ptr_newV (ρ := ρ) (M := M) (o := .cells ((List.range (c.toNat * z.length)).map fun i => PV.ofS (z.getD (i % z.length) undef))) rfl h.size
            simp only [List.length_map, List.length_range] at pk
            exact .push m ⟨_, rfl, (hLz _ _).lr⟩ (.sl pk hpos (by omega) (by omega))
      · cases hv
    · cases hv
  | sliceS e x lo' hi mx =>
    have p := opd_pr m F x
    simp only [aopV] at hv
    split at hv
    · -- nil
      rename_i hx
      rw [hx] at p
      simp only [Option.map_eq_some_iff, Prod.mk.injEq] at hv
      obtain ⟨⟨l, hh, mm⟩, h1, rfl, rfl⟩ := hv
      obtain ⟨b1, b2, b3, b4, _⟩ := slV_bounds (orel_of m F lo') (orel_of m F hi) (orel_of m F mx) (Nat.le_refl 0) h1
      simp only [aop, p.nilS_inv]
      rw [if_pos ⟨.inr ⟨trivial, trivial⟩, .inl (by decide)⟩]
      have e1 : l = 0 := by omega
      have e2 : hh = 0 := by omega
      have e3 : mm.getD 0 = 0 := by
        cases mm with
        | none => rfl
        | some q => have := b4 q rfl; simp; omega
      rw [e1, e2, e3] at b1
      unfold sliceV
      simp only [b1]
      rw [if_neg (by have := openCap_eq; omega)]
      exact .quiet m (.f .nilS)
    · -- a list that cannot be written
      rename_i ex q el cs hx
      rw [hx] at p
      split at hv
      · rename_i hoe
        have hcapok' : okE ex q el e = true → ∀ {cap : Nat}, (openCap < cap → cap = openCap + el) → (ex = true → cap = q) → q < 9223372036854775808 → openCap < cap → cap = openCap + e := fun hoe cap hop hex hq hx => by
          unfold okE at hoe
          simp only [Bool.or_eq_true, beq_iff_eq, Bool.and_eq_true] at hoe
          rcases hoe with rfl | ⟨rfl, _⟩
          · exact hop hx
          · have := hex rfl; omega
        rcases lst_of p with ⟨rfl, rfl, hw⟩ | ⟨b, o, cap, c, hw, hz, hb, ho, hL, hn, hcap, hex, hop, hne⟩
        · -- an empty one
          simp only [aop, hw]
          rw [if_pos ⟨.inr ⟨trivial, trivial⟩, .inl (by decide)⟩]
          have fin : ∀ l hh mm, slV 0 (lo'.map (·.evV E fr)) (hi.map (·.evV E fr)) (mx.map (·.evV E fr)) = some (l, hh, mm) → sliceV e none 0 0 (lo'.map (·.ev bf)) (hi.map (·.ev bf)) (mx.map (·.ev bf)) = some (.slice none 0 0) ∧ l = 0 ∧ hh = 0 := by
            intro l hh mm h1
            obtain ⟨b1, b2, b3, b4, _⟩ := slV_bounds (orel_of m F lo') (orel_of m F hi) (orel_of m F mx) (Nat.le_refl 0) h1
            have e1 : l = 0 := by omega
            have e2 : hh = 0 := by omega
            have e3 : mm.getD 0 = 0 := by
              cases mm with
              | none => rfl
              | some q => have := b4 q rfl; simp; omega
            rw [e1, e2, e3] at b1
            refine ⟨?_, e1, e2⟩
            unfold sliceV
            simp only [b1]
            rw [if_neg (by have := openCap_eq; omega)]
            rfl
          split at hv
          · rename_i l hh mm h1
            cases hv
            obtain ⟨g1, rfl, rfl⟩ := fin _ _ _ h1
            rw [g1]
            exact .quiet m (by simpa using PR.f (.lst0 _ _))
          · rename_i l hh h1
            obtain ⟨g1, rfl, rfl⟩ := fin _ _ _ h1
            rw [if_pos (.inl rfl)] at hv
            cases hv
            rw [g1]
            exact .quiet m (by simpa using PR.f (.lst0 _ _))
          · cases hv
        · have hlen : cs.length = q * e := okE_len hoe hne
          have hope : openCap < cap → cap = openCap + e := fun hx => hcapok' hoe hop hex hn hx
          simp only [aop, hw]
          have hcapok : cap < openCap ∨ cap = openCap ∨ cap = openCap + e := by
            rcases Nat.lt_trichotomy cap openCap with h1 | h1 | h1
            · exact .inl h1
            · exact .inr (.inl h1)
            · exact .inr (.inr (hope h1))
          rw [if_pos ⟨.inl rfl, hcapok⟩]
          have lohi : ∀ l hh, l ≤ hh → hh ≤ q → l * e + (hh - l) * e ≤ cs.length := fun l hh a b => by
            rw [hlen, ← Nat.add_mul]
            exact Nat.mul_le_mul_right _ (by omega)
          split at hv
          · rename_i l hh mm h1
            cases hv
            obtain ⟨b1, b2, b3, b4, _⟩ := slV_bounds (orel_of m F lo') (orel_of m F hi) (orel_of m F mx) hcap h1
            obtain ⟨b5, b6⟩ := b4 mm rfl
            unfold sliceV
            simp only [b1, Option.getD_some]
            rw [if_neg (by omega)]
            have hlh := lohi l hh b2 b3
            simp only [Option.map_some, addr_addV]
            split
            · rename_i hml
              have : hh - l = 0 := by omega
              exact .quiet m (lst_part hz hb ho hL hlh (by omega) (.inl (by simp [this])) (by omega) (by omega) (fun hx => by simp at hx; omega) (fun hx => by have := openCap_eq; omega) rfl)
            · exact .quiet m (lst_part hz hb ho hL hlh (by omega) (.inr rfl) (by omega) (by omega) (fun hx => by simp at hx; omega) (fun hx => by have := openCap_eq; omega) rfl)
          · rename_i l hh h1
            split at hv
            · rename_i hl0
              cases hv
              obtain ⟨b1, b2, b3, b4, _⟩ := slV_bounds (orel_of m F lo') (orel_of m F hi) (orel_of m F mx) hcap h1
              unfold sliceV
              simp only [b1, Option.getD_none, and_true, if_pos hl0]
              have hlh := lohi l hh b2 b3
              simp only [Option.map_some, addr_addV]
              split
              · rename_i hoc
                exact .quiet m (lst_part hz hb ho hL hlh (by omega) (.inr rfl) (by omega) (by omega) (fun hx => by simp at hx; have := hex hx.1; omega) hope rfl)
              · rename_i hoc
                split
                · rename_i hcl
                  have : hh - l = 0 := by omega
                  exact .quiet m (lst_part hz hb ho hL hlh (by omega) (.inl (by simp [this])) (by omega) (by omega) (fun hx => by simp at hx; have := hex hx.1; omega) (fun hx => by omega) rfl)
                · exact .quiet m (lst_part hz hb ho hL hlh (by omega) (.inr rfl) (by omega) (by omega) (fun hx => by simp at hx; have := hex hx.1; omega) (fun hx => by omega) rfl)
            · cases hv
          · cases hv
      · cases hv
    · -- one's own
      rename_i t len o q cap e' hx
      rw [hx] at p
      split at hv
      · cases hv
      · rename_i he
        have he : e' = e := by simpa using he
        subst he
        split at hv
        · rename_i h0
          subst h0
          rcases sl_of p with ⟨_, rfl, rfl, hw, ht⟩ | ⟨b, _, _, hl, _⟩
          · simp only [aop, hw]
            rw [if_pos ⟨.inr ⟨trivial, trivial⟩, .inl (by decide)⟩]
            have fin : ∀ l hh mm, slV 0 (lo'.map (·.evV E fr)) (hi.map (·.evV E fr)) (mx.map (·.evV E fr)) = some (l, hh, mm) → sliceV e' none 0 0 (lo'.map (·.ev bf)) (hi.map (·.ev bf)) (mx.map (·.ev bf)) = some (.slice none 0 0) := by
              intro l hh mm h1
              obtain ⟨b1, b2, b3, b4, _⟩ := slV_bounds (orel_of m F lo') (orel_of m F hi) (orel_of m F mx) (Nat.le_refl 0) h1
              have e1 : l = 0 := by omega
              have e2 : hh = 0 := by omega
              have e3 : mm.getD 0 = 0 := by
                cases mm with
                | none => rfl
                | some q => have := b4 q rfl; simp; omega
              rw [e1, e2, e3] at b1
              unfold sliceV
              simp only [b1]
              rw [if_neg (by have := openCap_eq; omega)]
              rfl
            split at hv
            · rename_i h1; cases hv; rw [fin _ _ _ h1]; exact .quiet m (.f .nilS)
            · rename_i h1; cases hv; rw [fin _ _ _ h1]; exact .quiet m (.f .nilS)
            · cases hv
          · omega
        · rename_i h0
          split at hv
          · rename_i hcap
            split at hv
            · rename_i r h1
              obtain ⟨l, hh, mm⟩ := r
              rcases sl_of p with ⟨h2, _⟩ | ⟨b, hw, hp, hl, hq, hqc⟩
              · exact absurd h2 h0
              · obtain ⟨b1, b2, b3, b4, _, t1, t2, t3⟩ := slV_bounds (orel_of m F lo') (orel_of m F hi) (orel_of m F mx) hqc h1
                simp only [Option.map_map] at t1 t2 t3
                have t1' : (lo'.map fun x => (x.evV E fr).toS) = lo'.map (·.ev bf) := t1
                have t2' : (hi.map fun x => (x.evV E fr).toS) = hi.map (·.ev bf) := t2
                have t3' : (mx.map fun x => (x.evV E fr).toS) = mx.map (·.ev bf) := t3
                rw [t1', t2', t3'] at hv
                split at hv
                · rename_i v0 hsv
                  obtain ⟨o', i, c, rfl, hblk⟩ := sliceV_block hsv
                  simp only [ofSlice, Option.map_some] at hv
                  cases hv
                  simp only [aop, hw]
                  rw [if_pos ⟨.inl rfl, hcap⟩, hblk b]
                  have hmm : hh ≤ mm.getD cap := by
                    cases mm with
                    | none => simp; omega
                    | some x => exact (b4 x rfl).1
                  obtain ⟨z1, z2⟩ := sliceV_len b1 hmm (hblk b)
                  exact .quiet m (.sl hp hl (by omega) z2)
                · cases hv
            · cases hv
          · cases hv
    · cases hv
  | sliceA q e x lo' hi mx =>
    have p := opd_pr m F x
    simp only [aopV] at hv
    split at hv
    · rename_i t len o hx
      rw [hx] at p
      split at hv
      · cases hv
      · rename_i h0
        simp only [not_or, Nat.not_le] at h0
        split at hv
        · rename_i r h1
          obtain ⟨l, hh, mm⟩ := r
          obtain ⟨b, hw, hp⟩ := ptr_of p
          obtain ⟨b1, b2, b3, b4, _, t1, t2, t3⟩ := slV_bounds (orel_of m F lo') (orel_of m F hi) (orel_of m F mx) (Nat.le_refl q) h1
          simp only [Option.map_map] at t1 t2 t3
          have t1' : (lo'.map fun x => (x.evV E fr).toS) = lo'.map (·.ev bf) := t1
          have t2' : (hi.map fun x => (x.evV E fr).toS) = hi.map (·.ev bf) := t2
          have t3' : (mx.map fun x => (x.evV E fr).toS) = mx.map (·.ev bf) := t3
          rw [t1', t2', t3'] at hv
          split at hv
          · rename_i v0 hsv
            obtain ⟨o', i, c, rfl, hblk⟩ := sliceV_block hsv
            simp only [ofSlice, Option.map_some] at hv
            cases hv
            simp only [aop, hw, hblk b, Option.map_some]
            have hmm : hh ≤ mm.getD q := by
              cases mm with
              | none => simp; omega
              | some x => exact (b4 x rfl).1
            obtain ⟨z1, z2⟩ := sliceV_len b1 hmm (hblk b)
            exact .quiet m (.sl hp (by omega) (by omega) z2)
          · cases hv
        · cases hv
    · cases hv
  | fieldAddr off x =>
    have p := opd_pr m F x
    simp only [aopV] at hv
    split at hv
    · rename_i hx; rw [hx] at p; cases hv; obtain ⟨b, hb, hp⟩ := ptr_of p; simp only [aop, hb, addr_addV]; exact .quiet m (.ptr hp)
    · rename_i cs hx
      rw [hx] at p
      split at hv
      · rename_i hd
        cases hv
        obtain ⟨b, o, c, hw, hz, hb, ho, hL⟩ := lptr_of p
        simp only [aop, hw, addr_addV]
        exact .quiet m (lptr_drop hz hb ho hL hd)
      · cases hv
    · cases hv
  | part off agg x =>
    have p := opd_pr m F x
    simp only [aopV] at hv
    split at hv
    · rename_i hx
      rw [hx] at p
      simp only [Option.map_eq_some_iff, Prod.mk.injEq] at hv
      obtain ⟨v0, h1, rfl, rfl⟩ := hv
      obtain ⟨x', hw, hL⟩ := p.agg_inv
      obtain ⟨w, h2, h3⟩ := partV_rel hL h1
      simp only [aop, hw, h2, Option.map_some]
      exact .quiet m h3
    · cases hv
  | indexAddrA q e x i =>
    have p := opd_pr m F x
    have pi := opd_pr m F i
    simp only [aopV] at hv
    split at hv
    · rename_i hx hi
      rw [hx] at p; rw [hi] at pi
      split at hv
      · rename_i hc
        cases hv
        obtain ⟨b, hb, hp⟩ := ptr_of p
        simp only [aop, hb, pi.int_inv, addr_addV]
        rw [if_pos hc]
        exact .quiet m (.ptr hp)
      · cases hv
    · rename_i hx hi
      rw [hx] at p; rw [hi] at pi
      split at hv
      · rename_i hc
        cases hv
        obtain ⟨b, o, c, hw, hz, hb, ho, hL⟩ := lptr_of p
        simp only [aop, hw, pi.int_inv, addr_addV]
        rw [if_pos ⟨hc.1, hc.2.1⟩]
        exact .quiet m (lptr_drop hz hb ho hL hc.2.2)
      · cases hv
    · cases hv
  | indexAddrS e x i =>
    have p := opd_pr m F x
    have pi := opd_pr m F i
    simp only [aopV] at hv
    split at hv
    · rename_i hx hi
      rw [hx] at p; rw [hi] at pi
      split at hv
      · rename_i hc
        cases hv
        rcases lst_of p with ⟨rfl, _⟩ | ⟨b, o, cap, c, hw, hz, hb, ho, hL, _, _, _, _, hne⟩
        · omega
        · simp only [aop, hw, pi.int_inv, addr_addV]
          rw [if_pos ⟨hc.1, hc.2.1⟩]
          refine .quiet m (lptr_drop hz hb ho hL ?_)
          rw [hne, hc.2.2]
          exact Nat.mul_le_mul_right _ (by omega)
      · cases hv
    · rename_i hx hi
      rw [hx] at p; rw [hi] at pi
      split at hv
      · rename_i hc
        cases hv
        rcases sl_of p with ⟨h1, _⟩ | ⟨b, hw, hp, _⟩
        · omega
        · simp only [aop, hw, pi.int_inv, addr_addV]
          rw [if_pos ⟨hc.1, hc.2.1⟩]
          exact .quiet m (.ptr hp)
      · cases hv
    · cases hv
  | indexA q e agg x i =>
    have p := opd_pr m F x
    have pi := opd_pr m F i
    simp only [aopV] at hv
    split at hv
    · rename_i hx hi
      rw [hx] at p; rw [hi] at pi
      split at hv
      · rename_i hc
        simp only [Option.map_eq_some_iff, Prod.mk.injEq] at hv
        obtain ⟨v0, h1, rfl, rfl⟩ := hv
        obtain ⟨x', hw, hL⟩ := p.agg_inv
        obtain ⟨w, h2, h3⟩ := partV_rel hL h1
        simp only [aop, hw, pi.int_inv]
        rw [if_pos hc, h2]
        exact .quiet m h3
      · cases hv
    · cases hv
  | indexStr x i =>
    have p := opd_pr m F x
    have pi := opd_pr m F i
    simp only [aopV] at hv
    split at hv
    · rename_i hx hi
      rw [hx] at p; rw [hi] at pi
      split at hv
      · rename_i hc
        simp only [Option.map_eq_some_iff, Prod.mk.injEq] at hv
        obtain ⟨v0, h1, rfl, rfl⟩ := hv
        simp only [aop, p.str_inv, pi.int_inv]
        rw [if_pos hc, h1]
        exact .quiet m (.f (.int _ _))
      · cases hv
    · cases hv
  | lookup flat z ok mm kk =>
    simp only [aopV] at hv
    split at hv
    · cases hv
    · rename_i es hes
      obtain ⟨es', h1, h2⟩ := mapEs_rel m (opd_pr m F mm) hes
      split at hv
      · cases hv
      · rename_i hk
        simp only [Option.map_eq_some_iff, Prod.mk.injEq] at hv
        obtain ⟨f, h3, rfl, rfl⟩ := hv
        obtain ⟨f', h4, h5⟩ := findK_rel (opd_pr m F kk) h2 h3
        simp only [aop, h1]
        rw [if_neg (by rw [keyOk_rel (opd_pr m F kk) (by simpa using hk)]; simp), h4]
        refine .quiet m ?_
        cases f with
        | none =>
          cases f' with
          | none => cases ok <;> simp only [lookResV, lookRes, if_true, Bool.false_eq_true, if_false]
                    · exact .f (ofV_pr m z)
                    · exact .tup' (.cons (.f (ofV_pr m z)) (.cons (.f (.bool _)) .nil))
          | some y => exact h5.elim
        | some y =>
          cases f' with
          | none => exact h5.elim
          | some y' =>
            cases ok <;> simp only [lookResV, lookRes, if_true, Bool.false_eq_true, if_false]
            · exact h5.2
            · exact .tup' (.cons h5.2 (.cons (.f (.bool _)) .nil))
  | mapUpdate flat mm kk x =>
    have p := opd_pr m F mm
    simp only [aopV] at hv
    split at hv
    · rename_i t hx
      rw [hx] at p
      split at hv
      · rename_i hk
        split at hv
        · rename_i es clock ht
          simp only [Option.map_eq_some_iff, Prod.mk.injEq] at hv
          obtain ⟨f, h3, rfl, rfl⟩ := hv
          obtain ⟨hw, hlo, es', h1, h2⟩ := map_pr m ht p
          obtain ⟨f', h4, h5⟩ := findK_rel (opd_pr m F kk) h2 h3
          simp only [aop, hw]
          rw [if_pos ⟨hlo, keyOk_rel (opd_pr m F kk) hk⟩]
          simp only [h1, h4, Option.map_some]
          cases f with
          | none =>
            cases f' with
            | none =>
              obtain ⟨q1, q2⟩ := map_set (clock := clock) (c2 := clock + 1) m ht (h2.snoc (opd_pr m F kk) (opd_pr m F x) clock)
              exact ⟨_, _, ρ, rfl, .f (.undef _), q1, q2⟩
            | some y => exact h5.elim
          | some y =>
            cases f' with
            | none => exact h5.elim
            | some y' =>
              obtain ⟨e1, _⟩ := h5
              obtain ⟨q1, q2⟩ := map_set (clock := clock) (c2 := clock) m ht (h2.modify y.1 (f := fun e => (kk.evV E fr, x.evV E fr, e.2.2)) (g := fun e => (kk.ev bf, x.ev bf, e.2.2)) fun e e' he => ⟨opd_pr m F kk, opd_pr m F x, he.2.2⟩)
              refine ⟨_, _, ρ, by simp only [updMap]; rw [← e1], .f (.undef _), q1, q2⟩
        · cases hv
      · cases hv
    · cases hv
  | mapEntry flat z mm kk =>
    have p := opd_pr m F mm
    simp only [aopV] at hv
    split at hv
    · rename_i t hx
      rw [hx] at p
      split at hv
      · rename_i hk
        split at hv
        · rename_i es clock ht
          simp only [Option.map_eq_some_iff] at hv
          obtain ⟨f, h3, hv⟩ := hv
          obtain ⟨hw, hlo, es', h1, h2⟩ := map_pr m ht p
          obtain ⟨f', h4, h5⟩ := findK_rel (opd_pr m F kk) h2 h3
          simp only [aop, hw]
          rw [if_pos ⟨hlo, keyOk_rel (opd_pr m F kk) hk⟩]
          simp only [h1, h4, Option.map_some]
          cases f with
          | none =>
            cases f' with
            | none =>
              simp only [entMapV, Prod.mk.injEq] at hv
              obtain ⟨rfl, rfl⟩ := hv
              obtain ⟨q1, q2⟩ := map_set (clock := clock) (c2 := clock + 1) m ht (h2.snoc (opd_pr m F kk) (.f (ofV_pr m z)) clock)
              exact ⟨_, _, ρ, rfl, .tup' (.cons (PR.up q2 (.f (ofV_pr m z))) (.cons (.f (.int _ _)) .nil)), q1, q2⟩
            | some y => exact h5.elim
          | some y =>
            cases f' with
            | none => exact h5.elim
            | some y' =>
              obtain ⟨e1, pv⟩ := h5
              simp only [entMapV, Prod.mk.injEq] at hv
              obtain ⟨rfl, rfl⟩ := hv
              obtain ⟨q1, q2⟩ := map_set (clock := clock) (c2 := clock) m ht (h2.modify y.1 (f := fun e => (kk.evV E fr, e.2)) (g := fun e => (kk.ev bf, e.2)) fun e e' he => ⟨opd_pr m F kk, he.2.1, he.2.2⟩)
              refine ⟨_, _, ρ, by simp only [entMap]; rw [← e1], .tup' (.cons (pv.up q2) (.cons ?_ .nil)), q1, q2⟩
              have : (((es[y.1]?).map fun x => (x.2.2 : Int)).getD 0 : Int) = ((es'[y.1]?).map fun x => (x.2.2 : Int)).getD 0 := by
                cases ha : es[y.1]? with
                | none =>
                  have := List.getElem?_eq_none_iff.1 ha
                  rw [List.getElem?_eq_none (by rw [← h2.1]; omega)]; rfl
                | some a =>
                  have hlt := (List.getElem?_eq_some_iff.1 ha).1
                  have hb := List.getElem?_eq_getElem (l := es') (i := y.1) (by rw [← h2.1]; exact hlt)
                  rw [hb]
                  simp only [Option.map_some, Option.getD_some]
                  exact congrArg _ (h2.2 _ _ _ ha hb).2.2.symm
              rw [this]
              exact .f (.int _ _)
        · cases hv
      · cases hv
    · cases hv
  | entryStore mm s x =>
    have p := opd_pr m F mm
    have ps := opd_pr m F s
    simp only [aopV] at hv
    split at hv
    · rename_i t kk born hx hs
      rw [hx] at p; rw [hs] at ps
      split at hv
      · rename_i es clock ht
        split at hv
        · rename_i i hi
          cases hv
          obtain ⟨hw, hlo, es', h1, h2⟩ := map_pr m ht p
          simp only [aop, hw, ps.int_inv]
          rw [if_pos hlo]
          simp only [h1]
          have hfi : es'.findIdx? (fun e => (e.2.2 : Int) == born) = some i := by
            rw [List.findIdx?_eq_some_iff_getElem] at hi ⊢
            obtain ⟨hlt, h3, h4⟩ := hi
            have hlt' : i < es'.length := by rw [← h2.1]; exact hlt
            have bb : ∀ j (hj : j < es.length) (hj' : j < es'.length), es'[j].2.2 = es[j].2.2 := fun j hj hj' => (h2.2 j _ _ (List.getElem?_eq_getElem hj) (List.getElem?_eq_getElem hj')).2.2
            refine ⟨hlt', by rw [bb i hlt hlt']; exact h3, fun j hj => ?_⟩
            rw [bb j (by omega) (by omega)]
            exact h4 j hj
          rw [hfi]
          obtain ⟨q1, q2⟩ := map_set (clock := clock) (c2 := clock) m ht (h2.modify i (f := fun e => (e.1, x.evV E fr, e.2.2)) (g := fun e => (e.1, x.ev bf, e.2.2)) fun e e' he => ⟨he.1, opd_pr m F x, he.2.2⟩)
          exact ⟨_, _, ρ, rfl, .f (.undef _), q1, q2⟩
        · cases hv
      · cases hv
    · cases hv
  | extract x i =>
    have p := opd_pr m F x
    simp only [aopV] at hv
    split at hv
    · rename_i hx
      rw [hx] at p
      simp only [Option.map_eq_some_iff, Prod.mk.injEq] at hv
      obtain ⟨v0, h1, rfl, rfl⟩ := hv
      obtain ⟨x', hw, hL⟩ := p.tup_inv
      obtain ⟨w, h2, h3⟩ := hL.get h1
      simp only [aop, hw]
      rw [Array.getElem?_toList] at h2
      rw [h2]
      exact .quiet m h3
    · cases hv
  | len str x =>
    have p := opd_pr m F x
    cases str with
    | false =>
      simp only [aopV] at hv
      split at hv
      · rename_i hx; rw [hx] at p; cases hv; simp only [aop, p.nilS_inv]; exact .quiet m (.f (.int _ _))
      · rename_i hx
        rw [hx] at p
        cases hv
        obtain ⟨b, o, hw⟩ : ∃ b o, x.ev bf = .slice (some ⟨b, o, none⟩) 0 0 := by
          generalize x.ev bf = w at p
          cases p with
          | f p => cases p with | emp hz hb ho => exact ⟨_, _, rfl⟩
        simp only [aop, hw]; exact .quiet m (.f (.int _ _))
      · rename_i hx
        rw [hx] at p
        cases hv
        rcases lst_of p with ⟨rfl, _, hw⟩ | ⟨b, o, cap, c, hw, _⟩
        · simp only [aop, hw]; exact .quiet m (.f (.int _ _))
        · simp only [aop, hw]; exact .quiet m (.f (.int _ _))
      · rename_i hx
        rw [hx] at p
        cases hv
        rcases sl_of p with ⟨_, _, rfl, hw, _⟩ | ⟨b, hw, _⟩
        · simp only [aop, hw]; exact .quiet m (.f (.int _ _))
        · simp only [aop, hw]; exact .quiet m (.f (.int _ _))
      · cases hv
    | true =>
      simp only [aopV] at hv
      split at hv
      · rename_i hx; rw [hx] at p; cases hv; simp only [aop, p.str_inv]; exact .quiet m (.f (.int _ _))
      · cases hv
  | lenC q => cases hv; exact .quiet m (.f (.int _ _))
  | append e bytes s x => exact append_pr m (opd_pr m F s) (opd_pr m F x) hv
  | minmax mx x more =>
    simp only [aopV, Option.bind_eq_some_iff] at hv
    obtain ⟨v0, h1, h2⟩ := hv
    obtain ⟨w, h3, h4⟩ := minmax_rel m F (opd_pr m F x) h1
    simp only [aop, h3, Option.map_some]
    split at h2
    · cases h2; exact .quiet m h4
    · cases h2
  | call f args => cases hv
  | bad => cases hv
end
end Go.RS

/- The value machine: what code does, as rules. -/
namespace Go.RS
open Go

/-! ### Less is said of a value -/
mutual
def PV.le : PV → PV → Prop
  | _, .undef => True
  | .nilS, .lst _ n _ cs => n = 0 ∧ cs = []
  | .emp, .lst _ n _ cs => n = 0 ∧ cs = []
  | .lst ex n e cs, .lst ex' n' e' cs' => (ex' = true → ex = true) ∧ n = n' ∧ (e = e' ∨ (ex = true ∧ n = 0)) ∧ (cs = cs' ∨ leL cs cs')
  | .agg cs, .agg cs' => cs = cs' ∨ leL cs cs'
  | .tup cs, .tup cs' => cs = cs' ∨ leL cs cs'
  | v, w => v = w
def PV.leL : List PV → List PV → Prop
  | [], [] => True
  | v :: vs, w :: ws => v.le w ∧ leL vs ws
  | _, _ => False
end
theorem leL_get : ∀ {a b : List PV}, PV.leL a b → a.length = b.length ∧ ∀ (i : Nat) v w, a[i]? = some v → b[i]? = some w → v.le w
  | [], [], _ => ⟨rfl, fun i v w h => by simp at h⟩
  | x :: a, y :: b, hl => by
    simp only [PV.leL] at hl
    obtain ⟨h1, h2⟩ := leL_get hl.2
    refine ⟨by simp [h1], fun i v w hv hw => ?_⟩
    cases i with
    | zero => simp at hv hw; subst hv hw; exact hl.1
    | succ i => exact h2 i v w (by simpa using hv) (by simpa using hw)
  | [], _ :: _, hl => by simp [PV.leL] at hl
  | _ :: _, [], hl => by simp [PV.leL] at hl
section
variable {Z Z' : Nat → Prop} {n lo k : Nat} {ρ ρ' ρ'' : Nat → Nat} {M M' M'' : VM} {h h' h'' : AH} {E : VEnv} {fr : VFr} {bf : Fr}

theorem PF.le {v : PV} {w : Value} (p : PF Z h v w) : ∀ {v' : PV}, v.le v' → PF Z h v' w := by
  induction p with
  | undef w => intro v' hl; cases v' <;> simp [PV.le] at hl <;> exact .undef _
  | int a b => intro v' hl; cases v' <;> simp [PV.le] at hl <;> first | exact .undef _ | (obtain ⟨rfl, rfl⟩ := hl; exact .int _ _)
  | bool b => intro v' hl; cases v' <;> simp [PV.le] at hl <;> first | exact .undef _ | (subst hl; exact .bool _)
  | str b => intro v' hl; cases v' <;> simp [PV.le] at hl <;> first | exact .undef _ | (subst hl; exact .str _)
  | nilP => intro v' hl; cases v' <;> simp [PV.le] at hl <;> first | exact .undef _ | exact .nilP
  | lptr hz hb ho hs hl hc ih => intro v' hle; cases v' <;> simp [PV.le] at hle <;> first | exact .undef _ | (subst hle; exact .lptr hz hb ho hs hl hc)
  | nilS => intro v' hl; cases v' <;> simp [PV.le] at hl <;> first | exact .undef _ | exact .nilS | (obtain ⟨rfl, rfl⟩ := hl; exact .lst0 _ _)
  | emp hz hb ho =>
    intro v' hl
    cases v' <;> simp [PV.le] at hl <;> first | exact .undef _ | exact .emp hz hb ho | (obtain ⟨rfl, rfl⟩ := hl; exact .lst (c' := []) (by simp) hz hb ho (by simp) rfl (fun i v v' x => by simp at x) (by decide) (Nat.le_refl _) (fun _ => rfl) (fun hx => by simp [openCap] at hx))
  | lst0 ex e =>
    intro v' hl
    cases v' <;> simp only [PV.le] at hl <;> first | exact .undef _ | (cases hl; done) | skip
    obtain ⟨_, rfl, _, hcs⟩ := hl
    rcases hcs with hcs | hcs
    · subst hcs; exact .lst0 _ _
    · have h0 := (leL_get hcs).1
      have h1 := List.eq_nil_of_length_eq_zero (h0.symm.trans List.length_nil)
      rw [h1]; exact .lst0 _ _
  | lst hne hz hb ho hs hl hc hn hcap hex hop ih =>
    intro v' hle
    cases v' <;> simp only [PV.le] at hle <;> first | exact .undef _ | (cases hle; done) | skip
    rename_i ex nn e cs0 b o cap c c' ex' n' e' cs'
    obtain ⟨h1, rfl, hee, hcs⟩ := hle
    have hne' : ∀ {l : Nat}, l = nn * e → l = nn * e' := fun {l} hl => by
      rcases hee with rfl | ⟨_, rfl⟩
      · exact hl
      · simpa using hl
    have hop' : openCap < cap → cap = openCap + e' := fun hx => by
      rcases hee with rfl | ⟨h2, rfl⟩
      · exact hop hx
      · have := hex h2; have := openCap_eq; omega
    rcases hcs with hcs | hcs
    · subst hcs; exact .lst (hne' hne) hz hb ho hs hl hc hn hcap (fun hx => hex (h1 hx)) hop'
    · obtain ⟨h2, h3⟩ := leL_get hcs
      refine .lst (hne' (h2 ▸ hne)) hz hb ho (by rw [← h2]; exact hs) (hl.trans h2) (fun i v v' a b => ?_) hn hcap (fun hx => hex (h1 hx)) hop'
      have hlt := (List.getElem?_eq_some_iff.1 a).1
      exact ih i _ v' (List.getElem?_eq_getElem (by rw [h2]; exact hlt)) b (h3 i _ v (List.getElem?_eq_getElem (by rw [h2]; exact hlt)) a)
  | nilM => intro v' hl; cases v' <;> simp [PV.le] at hl <;> first | exact .undef _ | exact .nilM
  | nilF => intro v' hl; cases v' <;> simp [PV.le] at hl <;> first | exact .undef _ | exact .nilF
  | func s1 h1 s2 h2 i1 i2 =>
    intro v' hl
    cases v' <;> simp only [PV.le] at hl <;> first | exact .undef _ | (cases hl; done) | skip
    cases hl; exact .func s1 h1 s2 h2
  | @agg x x' s hx ih =>
    intro v' hl
    cases v' <;> simp only [PV.le] at hl <;> first | exact .undef _ | (cases hl; done) | skip
    rcases hl with rfl | hl
    · exact .agg s hx
    · obtain ⟨h2, h3⟩ := leL_get hl
      refine .agg (h2.symm.trans s) fun i v v' a b => ?_
      have hlt := (List.getElem?_eq_some_iff.1 a).1
      exact ih i _ v' (List.getElem?_eq_getElem (by rw [h2]; exact hlt)) b (h3 i _ v (List.getElem?_eq_getElem (by rw [h2]; exact hlt)) a)
  | @tup x x' s hx ih =>
    intro v' hl
    cases v' <;> simp only [PV.le] at hl <;> first | exact .undef _ | (cases hl; done) | skip
    rcases hl with rfl | hl
    · exact .tup s hx
    · obtain ⟨h2, h3⟩ := leL_get hl
      refine .tup (h2.symm.trans s) fun i v v' a b => ?_
      have hlt := (List.getElem?_eq_some_iff.1 a).1
      exact ih i _ v' (List.getElem?_eq_getElem (by rw [h2]; exact hlt)) b (h3 i _ v (List.getElem?_eq_getElem (by rw [h2]; exact hlt)) a)
theorem PR.le {v : PV} {w : Value} (p : PR Z n ρ M h v w) : ∀ {v' : PV}, v.le v' → PR Z n ρ M h v' w := by
  induction p with
  | f p => intro v' hl; exact .f (p.le hl)
  | ptr hp => intro v' hl; cases v' <;> simp [PV.le] at hl <;> first | exact .f (.undef _) | (obtain ⟨rfl, rfl, rfl⟩ := hl; exact .ptr hp)
  | sl0 ht => intro v' hl; cases v' <;> simp only [PV.le] at hl <;> first | exact .f (.undef _) | (cases hl; first | done | exact .sl0 ht)
  | sl a b c d => intro v' hl; cases v' <;> simp only [PV.le] at hl <;> first | exact .f (.undef _) | (cases hl; first | done | exact .sl a b c d)
  | map a b => intro v' hl; cases v' <;> simp only [PV.le] at hl <;> first | exact .f (.undef _) | (cases hl; first | done | exact .map a b)
  | yield a b => intro v' hl; cases v' <;> simp only [PV.le] at hl <;> first | exact .f (.undef _) | (cases hl; first | done | exact .yield a b)
  | func s1 h1 s2 h2 i1 i2 => intro v' hl; cases v' <;> simp only [PV.le] at hl <;> first | exact .f (.undef _) | (cases hl; first | done | exact .func s1 h1 s2 h2)
  | @agg x x' s hx ih =>
    intro v' hl
    cases v' <;> simp only [PV.le] at hl <;> first | exact .f (.undef _) | (cases hl; done) | skip
    rcases hl with rfl | hl
    · exact .agg s hx
    · obtain ⟨h2, h3⟩ := leL_get hl
      refine .agg (h2.symm.trans s) fun i v v' a b => ?_
      have hlt := (List.getElem?_eq_some_iff.1 a).1
      exact ih i _ v' (List.getElem?_eq_getElem (by rw [h2]; exact hlt)) b (h3 i _ v (List.getElem?_eq_getElem (by rw [h2]; exact hlt)) a)
  | @tup x x' s hx ih =>
    intro v' hl
    cases v' <;> simp only [PV.le] at hl <;> first | exact .f (.undef _) | (cases hl; done) | skip
    rcases hl with rfl | hl
    · exact .tup s hx
    · obtain ⟨h2, h3⟩ := leL_get hl
      refine .tup (h2.symm.trans s) fun i v v' a b => ?_
      have hlt := (List.getElem?_eq_some_iff.1 a).1
      exact ih i _ v' (List.getElem?_eq_getElem (by rw [h2]; exact hlt)) b (h3 i _ v (List.getElem?_eq_getElem (by rw [h2]; exact hlt)) a)

/-! ### What stands still while nobody writes -/
def fzSl (M : VM) (t len o q cap e : Nat) : PV :=
  if len = 0 then .nilS
  else match M[t]? with
    | some (.vec c) => if c.length = len ∧ o + q * e ≤ len ∧ (cap ≤ openCap ∨ cap = openCap + e) then .lst (cap == q) q e ((c.drop o).take (q * e)) else .undef
    | some (.cells c) => if c.length = len ∧ o + q * e ≤ len ∧ (cap ≤ openCap ∨ cap = openCap + e) ∧ PV.isFL ((c.drop o).take (q * e)) = true then .lst (cap == q) q e ((c.drop o).take (q * e)) else .undef
    | _ => .undef
mutual
def PV.fz (M : VM) : PV → PV
  | .sl t len o q cap e => fzSl M t len o q cap e
  | .ptr .. | .map _ | .yield _ => .undef
  | .agg cs => .agg (fzL M cs)
  | .tup cs => .tup (fzL M cs)
  | .func f a c => if PV.isFL a && PV.isFL c then .func f a c else .undef
  | v => v
def PV.fzL (M : VM) : List PV → List PV
  | [] => []
  | v :: vs => v.fz M :: fzL M vs
end
theorem fzL_get : ∀ {l : List PV} {i : Nat} {v : PV}, (PV.fzL M l)[i]? = some v → ∃ u, l[i]? = some u ∧ v = u.fz M
  | [], i, v, hv => by simp [PV.fzL] at hv
  | x :: l, i, v, hv => by
    simp only [PV.fzL] at hv
    cases i with
    | zero => simp at hv; exact ⟨x, rfl, hv.symm⟩
    | succ i => simp at hv; obtain ⟨u, h1, h2⟩ := fzL_get hv; exact ⟨u, by simpa using h1, h2⟩
theorem fzL_len : ∀ {l : List PV}, (PV.fzL M l).length = l.length
  | [] => rfl
  | x :: l => by simp [PV.fzL, fzL_len]
/-- What an own list stands for, as long as it is not written; 'Z' may name its block. -/
theorem fzSl_rel (m : Mem Z n ρ M h E lo) (hz : ∀ b, Zf Z n ρ M b → Z' b) {t len o q cap e : Nat} (ho : ∀ ob, M[t]? = some ob → Live ob → Z' (ρ t)) {w : Value} (p : PR Z n ρ M h (.sl t len o q cap e) w) : PF Z' h (fzSl M t len o q cap e) w := by
  rcases sl_of p with ⟨rfl, rfl, rfl, rfl, _⟩ | ⟨b, rfl, hp, hl, hq, hqc⟩
  · simp only [fzSl, if_true]; exact .nilS
  · unfold fzSl
    rw [if_neg (by omega)]
    have fin : ∀ (c : List PV) (ob : VObj), M[t]? = some ob → Live ob → vcells M t = some c → c.length = len → o + q * e ≤ len → (cap ≤ openCap ∨ cap = openCap + e) → (∀ c' : List Value, h[ρ t]? = some (.cells c') → LR Z n ρ M h c c' → LF (Zf Z n ρ M) h ((c.drop o).take (q * e)) ((c'.drop o).take (q * e))) →
        PF Z' h (.lst (cap == q) q e ((c.drop o).take (q * e))) (.slice (some ⟨b, o, none⟩) q cap) := by
      intro c ob hob hlv hc hlen hle hcap hF
      have hne : c ≠ [] := by rintro rfl; simp at hlen; omega
      obtain ⟨_, _, c', hb, hL⟩ := m.block hc hne
      have := (hp.2 c hc).2 hlen.symm hl
      subst this
      have hLF := hF c' hb hL
      have hcl : c'.length = len := by rw [← hL.1]; exact hlen
      have hln : ((c.drop o).take (q * e)).length = q * e := by simp; omega
      refine .lst hln (ho ob hob hlv) hb (by omega) rfl (by simp; omega) (fun i v v' a b => ?_) hq hqc (fun hx => by simpa using hx) (fun hx => hcap.resolve_left (by omega))
      rw [hln] at b
      exact (hLF.2 i v v' a b).mono fun x hx hzz => ⟨hz x hzz, rfl⟩
    split
    · rename_i c ht
      split
      · rename_i hc
        have hne : c ≠ [] := by rintro rfl; simp at hc; omega
        refine fin c _ ht hne (by unfold vcells; rw [ht]) hc.1 hc.2.1 hc.2.2 fun c' hb hL => ?_
        obtain ⟨g1, ao, g2, c2, rfl, g3⟩ := m.obj t _ ht hne
        rw [hb] at g2; cases g2
        exact (g3.drop o).take _
      · exact .undef _
    · rename_i c ht
      split
      · rename_i hc
        have hne : c ≠ [] := by rintro rfl; simp at hc; omega
        exact fin c _ ht hne (by unfold vcells; rw [ht]) hc.1 hc.2.1 hc.2.2.1 fun c' hb hL => ((hL.drop o).take _).toF hc.2.2.2
      · exact .undef _
    · exact .undef _
theorem PF.fz {v : PV} {w : Value} (q : PF Z h v w) : PF Z h (v.fz M) w := by
  induction q with
  | agg s hx ih => exact .agg (by rw [fzL_len]; exact s) fun i v v' a b => let ⟨u, h1, h2⟩ := fzL_get a; h2 ▸ ih i u v' h1 b
  | tup s hx ih => exact .tup (by rw [fzL_len]; exact s) fun i v v' a b => let ⟨u, h1, h2⟩ := fzL_get a; h2 ▸ ih i u v' h1 b
  | func s1 h1 s2 h2 i1 i2 =>
    simp only [PV.fz]
    split
    · exact .func s1 h1 s2 h2
    · exact .undef _
  | undef w => exact .undef _
  | int a b => exact .int _ _
  | bool b => exact .bool _
  | str b => exact .str _
  | nilP => exact .nilP
  | nilS => exact .nilS
  | nilM => exact .nilM
  | nilF => exact .nilF
  | lst0 a b => exact .lst0 _ _
  | emp a b c => exact .emp a b c
  | lptr a b c d e f g => exact .lptr a b c d e f
  | lst a b c d e f g i j k l x => exact .lst a b c d e f g i j k l
theorem PR.fz (m : Mem Z n ρ M h E lo) (hz : ∀ b, Zf Z n ρ M b ∨ Owned ρ M b → Z' b) {v : PV} {w : Value} (p : PR Z n ρ M h v w) : PF Z' h (v.fz M) w := by
  have up : ∀ {v : PV} {w : Value}, PF (Zf Z n ρ M) h v w → PF Z' h v w := fun q => q.mono fun b _ hb => ⟨hz b (.inl hb), rfl⟩
  induction p with
  | f q => exact (up q).fz
  | ptr _ => exact .undef _
  | map _ _ => exact .undef _
  | yield _ _ => exact .undef _
  | sl0 ht => exact fzSl_rel m (fun b hb => hz b (.inl hb)) (fun ob h1 h2 => hz _ (.inr ⟨_, ob, h1, h2, rfl⟩)) (.sl0 ht)
  | sl a b c d => exact fzSl_rel m (fun b hb => hz b (.inl hb)) (fun ob h1 h2 => hz _ (.inr ⟨_, ob, h1, h2, rfl⟩)) (.sl a b c d)
  | func s1 h1 s2 h2 i1 i2 =>
    simp only [PV.fz]
    split
    · rename_i hx
      simp only [Bool.and_eq_true] at hx
      exact up (PR.toF (.func s1 h1 s2 h2) (by simp only [PV.isF, Bool.and_eq_true]; exact hx))
    · exact .undef _
  | agg s hx ih => exact .agg (by rw [fzL_len]; exact s) fun i v v' a b => let ⟨u, h1, h2⟩ := fzL_get a; h2 ▸ ih i u v' h1 b
  | tup s hx ih => exact .tup (by rw [fzL_len]; exact s) fun i v v' a b => let ⟨u, h1, h2⟩ := fzL_get a; h2 ▸ ih i u v' h1 b
theorem flat1_any {v : PV} {w : Value} (hf : v.flat1 = true) (p : PF Z h v w) : PF Z' h' v w := by
  cases v <;> simp [PV.flat1] at hf <;> cases p <;> constructor
theorem flat_any {v : PV} {w : Value} (hf : v.flat = true) (p : PF Z h v w) : PF Z' h' v w := by
  cases v <;> simp [PV.flat] at hf
  case agg cs => cases p with | agg s hx => exact .agg s fun i v v' a b => flat1_any (hf v (List.mem_of_getElem? a)) (hx i v v' a b)
  case tup cs => cases p with | tup s hx => exact .tup s fun i v v' a b => flat1_any (hf v (List.mem_of_getElem? a)) (hx i v v' a b)
  all_goals exact flat1_any (by first | rfl | exact hf) p
end

/-! ### What code does -/
section
variable (E : VEnv) (k : Nat)
def VW (c : ACode) (fr : VFr) (M : VM) (Q : AExit → VFr → VM → Prop) : Prop :=
  ∀ (lo n : Nat) (Z : Nat → Prop) (ρ : Nat → Nat) (h : AH) (bf : Fr), k ≤ M.length → Mem Z n ρ M h E lo → FR Z n ρ M h fr bf →
    W E.env lo c bf h fun e bf' h' => ∃ fr' M' ρ', Mem Z n ρ' M' h' E lo ∧ FR Z n ρ' M' h' fr' bf' ∧ Up k ρ M h ρ' M' h' ∧ Q e fr' M'
def VO (d : Bool) (ops : List AOper) (fr : VFr) (M : VM) (Q : VFr → VM → Prop) : Prop :=
  ∀ (lo n : Nat) (Z : Nat → Prop) (ρ : Nat → Nat) (h : AH) (bf : Fr), k ≤ M.length → Mem Z n ρ M h E lo → FR Z n ρ M h fr bf →
    (match d with | false => WO E.env lo ops bf h | true => WD E.env lo ops bf h) fun bf' h' => ∃ fr' M' ρ', Mem Z n ρ' M' h' E lo ∧ FR Z n ρ' M' h' fr' bf' ∧ Up k ρ M h ρ' M' h' ∧ Q fr' M'
/-- A call; what is there of memory stays there. 'g': it turns no block that lay. -/
def VC (g : Bool) (f : PV) (args : List PV) (M : VM) (K : PV → VM → Prop) : Prop :=
  ∀ (lo n : Nat) (Z : Nat → Prop) (ρ : Nat → Nat) (h : AH) (w : Value) (ws : List Value), Mem Z n ρ M h E lo → PR Z n ρ M h f w → LR Z n ρ M h args ws →
    WF E.env lo w ws h fun v h' => (g = true → Grow h h') ∧ ∃ r M' ρ', Mem Z n ρ' M' h' E lo ∧ PR Z n ρ' M' h' r v ∧ Up M.length ρ M h ρ' M' h' ∧ K r M'
/-- A function that turns nothing: its answer. -/
def VP (f : Nat) (args : List PV) (r : PV) : Prop :=
  ∀ (lo : Nat) (Z : Nat → Prop) (h : AH) (ws : List Value), lo ≤ h.size → GlOk Z h.size h E → LF Z h args ws →
    WF E.env lo (.func (.func f) #[] #[]) ws h fun v h' => Grow h h' ∧ PF (fun b => b < h.size → Z b) h' r v
end

section
variable {E : VEnv} {k : Nat} {fr : VFr} {M : VM} {Q Q' : AExit → VFr → VM → Prop}

theorem VW.mono {c : ACode} (hw : VW E k c fr M Q) (hq : ∀ e f m, Q e f m → Q' e f m) : VW E k c fr M Q' :=
  fun lo n Z ρ h bf hk m F => (hw lo n Z ρ h bf hk m F).mono fun _ _ _ ⟨fr', M', ρ', h1, h2, h3, h4⟩ => ⟨fr', M', ρ', h1, h2, h3, hq _ _ _ h4⟩
theorem VW.skip (q : Q .normal fr M) : VW E k .skip fr M Q := fun lo n Z ρ h bf hk m F => .skip ⟨fr, M, ρ, m, F, .refl hk, q⟩
theorem VW.ret (q : Q .ret fr M) : VW E k .ret fr M Q := fun lo n Z ρ h bf hk m F => .ret ⟨fr, M, ρ, m, F, .refl hk, q⟩
theorem VW.exit {id : Nat} (q : Q (.exit id) fr M) : VW E k (.exit id) fr M Q := fun lo n Z ρ h bf hk m F => .exit ⟨fr, M, ρ, m, F, .refl hk, q⟩
/-- On with b where a ends normally. -/
def thenV (E : VEnv) (k : Nat) (b : ACode) (Q : AExit → VFr → VM → Prop) (e : AExit) (f : VFr) (m : VM) : Prop := match e with
  | .normal => VW E k b f m Q
  | e => Q e f m
/-- What follows, from a memory that has gone on. -/
theorem VW.after {c : ACode} {lo n : Nat} {Z : Nat → Prop} {ρ ρ' : Nat → Nat} {h h' : AH} {fr' : VFr} {M' : VM} {bf' : Fr} (hw : VW E k c fr' M' Q) (m : Mem Z n ρ' M' h' E lo) (F : FR Z n ρ' M' h' fr' bf') (up : Up k ρ M h ρ' M' h') :
    W E.env lo c bf' h' fun e bf2 h2 => ∃ fr2 M2 ρ2, Mem Z n ρ2 M2 h2 E lo ∧ FR Z n ρ2 M2 h2 fr2 bf2 ∧ Up k ρ M h ρ2 M2 h2 ∧ Q e fr2 M2 :=
  (hw lo n Z ρ' h' bf' up.k1 m F).mono fun _ _ _ ⟨fr2, M2, ρ2, h1, h2, h3, h4⟩ => ⟨fr2, M2, ρ2, h1, h2, up.trans h3, h4⟩
theorem VW.seq {a b : ACode} (hw : VW E k a fr M (thenV E k b Q)) : VW E k (.seq a b) fr M Q := fun lo n Z ρ h bf hk m F => by
  refine .seq ((hw lo n Z ρ h bf hk m F).mono ?_)
  rintro e bf' h' ⟨fr', M', ρ', m', F', up, q⟩
  cases e with
  | normal => exact VW.after q m' F' up
  | exit id => exact ⟨fr', M', ρ', m', F', up, q⟩
  | ret => exact ⟨fr', M', ρ', m', F', up, q⟩
theorem VW.cond {c : Opd} {a b : ACode} {t : Bool} (hc : c.evV E fr = .bool t) (ht : t = true → VW E k a fr M Q) (hf : t = false → VW E k b fr M Q) : VW E k (.cond c a b) fr M Q := fun lo n Z ρ h bf hk m F => by
  have p := opd_pr m F c
  rw [hc] at p
  exact .cond p.bool_inv (fun h1 => ht h1 lo n Z ρ h bf hk m F) (fun h1 => hf h1 lo n Z ρ h bf hk m F)
theorem VW.block {id : Nat} {c : ACode} (hw : VW E k c fr M fun e f m => Q (e.leave id) f m) : VW E k (.block id c) fr M Q := fun lo n Z ρ h bf hk m F =>
  .block ((hw lo n Z ρ h bf hk m F).mono fun _ _ _ ⟨fr', M', ρ', h1, h2, h3, h4⟩ => ⟨fr', M', ρ', h1, h2, h3, h4⟩)
theorem VW.scope {c : ACode} (hw : VW E k c fr M Q) : VW E k (.scope c) fr M Q := fun lo n Z ρ h bf hk m F => .scope (hw lo n Z ρ h bf hk m F)
theorem VW.loop {c : ACode} (hw : VW E k c fr M (thenV E k (.loop c) Q)) : VW E k (.loop c) fr M Q := fun lo n Z ρ h bf hk m F => by
  refine .loop ((hw lo n Z ρ h bf hk m F).mono ?_)
  rintro e bf' h' ⟨fr', M', ρ', m', F', up, q⟩
  cases e with
  | normal => exact VW.after q m' F' up
  | exit id => exact ⟨fr', M', ρ', m', F', up, q⟩
  | ret => exact ⟨fr', M', ρ', m', F', up, q⟩
theorem VW.region {d : Bool} {ops : List AOper} (hw : VO E k d ops fr M (Q .normal)) : VW E k (.region d ops) fr M Q := fun lo n Z ρ h bf hk m F => by
  have := hw lo n Z ρ h bf hk m F
  cases d with
  | false => exact .region this
  | true => exact .regionD this

/-! ### Lists of operations -/
def liveLen (M : VM) (t len : Nat) : Bool := match vcells M t with | some c => c.length == len && 0 < len | none => false
/-- An append to it makes a block of its own, or takes the old one's place. -/
def openV : PV → Bool
  | .sl _ _ _ _ sc _ => decide (openCap ≤ sc)
  | .nilS => true
  | _ => false
def atomPV : PV → Bool
  | .int _ _ | .bool _ => true
  | _ => false
def lookAtomV (M : VM) (fl : KS) (m k : PV) : Bool :=
  match mapEsV M m with
  | some es => (match findKV fl k es 0 with
    | some (some x) => atomPV x.2
    | some none => true
    | none => false)
  | none => false
def lateV (E : VEnv) (o : AOper) (fr : VFr) (M : VM) : Bool :=
  match o.op with
  | .store _ a _ => match a.evV E fr with
    | .ptr t len _ => liveLen M t len && o.late.all fun x => match x.evV E fr with
      | .ptr t' len' _ => t' != t && liveLen M t' len'
      | .lptr _ => true
      | _ => false
    | _ => false
  | .append _ _ s _ => o.late.isEmpty || openV (s.evV E fr)
  | .mapEntry fl _ m k => o.late.isEmpty || lookAtomV M fl (m.evV E fr) (k.evV E fr)
  | _ => o.late.isEmpty
/-- What is appended to it is copied: nothing that lay is turned. -/
def freshB : PV → Bool
  | .nilS | .emp | .lst true _ _ _ => true
  | _ => false
def freshV (E : VEnv) (fr : VFr) : AOp → Bool
  | .append _ _ s _ => freshB (s.evV E fr)
  | _ => false
def okV (x : Option (PV × VM)) (q : PV → VM → Prop) : Prop := match x with | some (v, m) => q v m | none => False
def vg (w : Option Bool) (a b : Prop) : Prop := match w with | some true => a | some false => b | none => False
theorem vg_true (a b : Prop) : vg (some true) a b = a := rfl
theorem vg_false (a b : Prop) : vg (some false) a b = b := rfl
/-- What a list of operations asks, in order; 'S': slots whose new slices may be written. -/
def vo (E : VEnv) (d : Bool) (S : List Nat) (Q : VFr → VM → Prop) : List AOper → VFr → VM → Prop
  | [], fr, M => Q fr M
  | o :: os, fr, M =>
    vg (wantedV o.guard fr)
      (match o.op with
       | .call f args => VC E (d && !(o.seqd && o.late.isEmpty)) (f.evV E fr) (args.map (·.evV E fr)) M fun r M' => vo E d S Q os (putV fr o.dst r) M'
       | op => ((!d || op.still || freshV E fr op || (o.seqd && lateV E o fr M)) = true) ∧ okV (aopV E (match o.dst with | some i => S.contains i | none => false) op fr M) fun v M' => vo E d S Q os (putV fr o.dst v) M')
      (vo E d S Q os (putV fr o.dst (.tup [])) M)
theorem wanted_pr {Z : Nat → Prop} {n : Nat} {ρ : Nat → Nat} {h : AH} {bf : Fr} (F : FR Z n ρ M h fr bf) {g : Option (Nat × Bool)} {b : Bool} (hb : wantedV g fr = some b) : wantedA g bf = b := by
  cases g with
  | none => cases hb; rfl
  | some x =>
    obtain ⟨s, want⟩ := x
    simp only [wantedV] at hb
    split at hb
    · rename_i t ht
      cases hb
      have p := F s
      rw [ht] at p
      simp only [wantedA, p.bool_inv]
    · rename_i t ht
      cases hb
      have p := F s
      rw [ht] at p
      obtain ⟨_, hw, _⟩ := p.tup_inv
      simp only [wantedA, hw]
    · cases hb
theorem live_own {Z : Nat → Prop} {n lo : Nat} {ρ : Nat → Nat} {h : AH} {t len o : Nat} {w : Value} (hl : liveLen M t len = true) (p : PR Z n ρ M h (.ptr t len o) w) : w = .pointer (some ⟨ρ t, o, none⟩) ∧ ∃ ob, M[t]? = some ob ∧ Live ob := by
  unfold liveLen at hl
  split at hl
  · rename_i c hc
    simp only [Bool.and_eq_true, beq_iff_eq, decide_eq_true_eq] at hl
    obtain ⟨b, hb, hp⟩ := ptr_of p
    have := (hp.2 c hc).2 hl.1.symm hl.2
    subst this
    have hne : c ≠ [] := by rintro rfl; simp at hl; omega
    refine ⟨hb, ?_⟩
    rcases vcells_some hc with h1 | h1
    · exact ⟨_, h1, hne⟩
    · exact ⟨_, h1, hne⟩
  · cases hl
theorem open_pr {Z : Nat → Prop} {n lo : Nat} {ρ : Nat → Nat} {h : AH} {bf : Fr} (m : Mem Z n ρ M h E lo) (F : FR Z n ρ M h fr bf) {s : Opd} (hl : openV (s.evV E fr) = true) : openS (s.ev bf) = true := by
  have ps := opd_pr m F s
  generalize s.evV E fr = v at *
  generalize s.ev bf = w at *
  cases v with
  | nilS => rw [ps.nilS_inv]; rfl
  | sl t len o k cap e =>
    simp only [openV, decide_eq_true_eq] at hl
    cases ps with
    | f q => cases q
    | sl0 => rfl
    | sl hp hl0 hm hc => simpa [openS] using hl
  | _ => simp [openV] at hl
theorem look_pr {Z : Nat → Prop} {n lo : Nat} {ρ : Nat → Nat} {h : AH} {bf : Fr} (m : Mem Z n ρ M h E lo) (F : FR Z n ρ M h fr bf) {fl : KS} {mm kk : Opd} (hl : lookAtomV M fl (mm.evV E fr) (kk.evV E fr) = true) : lookAtom h fl (mm.ev bf) (kk.ev bf) = true := by
  unfold lookAtomV at hl
  split at hl
  · rename_i es hes
    obtain ⟨es', h1, h2⟩ := mapEs_rel m (opd_pr m F mm) hes
    unfold lookAtom
    rw [h1]
    simp only
    split at hl
    · rename_i x h3
      obtain ⟨f', h4, h5⟩ := findK_rel (opd_pr m F kk) h2 h3
      rw [h4]
      cases f' with
      | none => exact h5.elim
      | some y =>
        obtain ⟨i, v⟩ := x
        have h6 := h5.2
        simp only at h6 hl ⊢
        generalize y.2 = w at *
        cases v with
        | int k n => rw [h6.int_inv]; rfl
        | bool b => rw [h6.bool_inv]; rfl
        | _ => cases hl
    · rename_i h3
      obtain ⟨f', h4, h5⟩ := findK_rel (opd_pr m F kk) h2 h3
      rw [h4]
      cases f' with
      | none => rfl
      | some y => exact h5.elim
    · cases hl
  · cases hl
theorem late_pr {Z : Nat → Prop} {n lo : Nat} {ρ : Nat → Nat} {h : AH} {bf : Fr} (m : Mem Z n ρ M h E lo) (F : FR Z n ρ M h fr bf) {o : AOper} (hl : lateV E o fr M = true) : lateOk o bf h := by
  unfold lateV at hl
  unfold lateOk
  split at hl
  · rename_i ho
    rw [ho]
    rename_i sz a x
    dsimp only
    have pa := opd_pr m F a
    split at hl
    · rename_i t len of ha
      rw [ha] at pa
      simp only [Bool.and_eq_true, List.all_eq_true] at hl
      obtain ⟨h1, h2⟩ := hl
      obtain ⟨hw, ob, hob, hlv⟩ := live_own (lo := lo) h1 pa
      rw [hw]
      dsimp only
      intro y hy
      have h3 := h2 y hy
      have py := opd_pr m F y
      split at h3
      · rename_i t' len' o' hyv
        rw [hyv] at py
        simp only [Bool.and_eq_true, bne_iff_ne] at h3
        obtain ⟨hw', ob', hob', hlv'⟩ := live_own (lo := lo) h3.2 py
        rw [hw']
        dsimp only
        intro he
        exact h3.1 (m.inj t' t ob' ob hob' hob hlv' hlv he)
      · rename_i cs hyv
        rw [hyv] at py
        obtain ⟨b, o', c, hw', hz, _⟩ := lptr_of py
        rw [hw']
        dsimp only
        rintro rfl
        exact hz.2 ⟨t, ob, hob, hlv, rfl⟩
      · cases h3
    · cases hl
  · rename_i e b s x ho
    rw [ho]
    simp only [Bool.or_eq_true, List.isEmpty_iff] at hl
    exact hl.imp id (open_pr m F)
  · rename_i fl z mm kk ho
    rw [ho]
    simp only [Bool.or_eq_true, List.isEmpty_iff] at hl
    exact hl.imp id (look_pr m F)
  · rename_i hno hno2 hno3
    have hl : o.late = [] := by simpa using hl
    cases hop : o.op <;> first | exact hl | exact absurd hop (hno _ _ _) | exact absurd hop (hno2 _ _ _ _) | exact absurd hop (hno3 _ _ _ _)
theorem appendA_fresh {lo : Nat} {h h' : AH} {e b : Nat} {s x w : Value} (hs : s = .slice none 0 0 ∨ ∃ c o n, s = .slice (some ⟨c, o, none⟩) n n ∧ n < 9223372036854775808) (ha : appendA lo h e b s x = some (w, h')) : Grow h h' := by
  have hg : ∀ a : AObj, Grow h (h.push a) := fun a => growPush h a
  unfold appendA at ha
  split at ha
  · cases ha
  · rename_i n new _
    rcases hs with rfl | ⟨c, o, k, rfl, hk⟩
    · simp only [and_self, if_true] at ha
      split at ha
      · cases ha; exact ⟨Nat.le_refl _, fun _ _ => rfl⟩
      · split at ha
        · cases ha; exact hg _
        · cases ha
    · simp only at ha
      split at ha
      · split at ha
        · cases ha; exact ⟨Nat.le_refl _, fun _ _ => rfl⟩
        · cases ha
      · rename_i hn
        rw [if_neg (by have := openCap_eq; omega), if_neg (by omega)] at ha
        split at ha
        · split at ha
          · cases ha; exact hg _
          · cases ha
        · cases ha
theorem fresh_pr {Z : Nat → Prop} {n lo : Nat} {ρ : Nat → Nat} {h h' : AH} {bf : Fr} (m : Mem Z n ρ M h E lo) (F : FR Z n ρ M h fr bf) {op : AOp} (hf : freshV E fr op = true) {w : Value} (ha : aop lo op bf h = some (w, h')) : Grow h h' := by
  cases op with
  | append e b s x =>
    have ps := opd_pr m F s
    simp only [freshV] at hf
    refine appendA_fresh (lo := lo) (e := e) (b := b) (s := s.ev bf) (x := x.ev bf) ?_ ha
    clear ha
    generalize s.evV E fr = v at *
    generalize s.ev bf = sv at *
    cases v with
    | nilS => rw [ps.nilS_inv]; exact .inl rfl
    | emp =>
      cases ps with
      | f q => cases q with
        | emp hz hb ho => exact .inr ⟨_, _, 0, rfl, by decide⟩
    | lst ex q e' cs =>
      cases ex with
      | false => simp [freshB] at hf
      | true =>
        cases ps with
        | f q => cases q with
          | lst0 => exact .inl rfl
          | lst hne hz hb ho hs hl hc hn hcap hex hop =>
            have := hex rfl
            subst this
            exact .inr ⟨_, _, _, rfl, hn⟩
    | _ => simp [freshB] at hf
  | _ => simp [freshV] at hf
theorem vo_VO {d : Bool} {S : List Nat} {Q : VFr → VM → Prop} : ∀ {ops : List AOper} {fr : VFr} {M : VM}, vo E d S Q ops fr M → VO E k d ops fr M Q
  | [], fr, M, hv => fun lo n Z ρ h bf hk m F => by
    cases d with
    | false => exact .nil ⟨fr, M, ρ, m, F, .refl hk, hv⟩
    | true => exact .nil ⟨fr, M, ρ, m, F, .refl hk, hv⟩
  | o :: os, fr, M, hv => fun lo n Z ρ h bf hk m F => by
    have next : ∀ {fr' : VFr} {M' : VM} {ρ' : Nat → Nat} {h' : AH} {bf' : Fr}, vo E d S Q os fr' M' → Mem Z n ρ' M' h' E lo → FR Z n ρ' M' h' fr' bf' → Up k ρ M h ρ' M' h' →
        (match d with | false => WO E.env lo os bf' h' | true => WD E.env lo os bf' h') fun bf' h' => ∃ fr' M' ρ', Mem Z n ρ' M' h' E lo ∧ FR Z n ρ' M' h' fr' bf' ∧ Up k ρ M h ρ' M' h' ∧ Q fr' M' := by
      intro fr' M' ρ' h' bf' h1 h2 h3 h4
      have := vo_VO h1 lo n Z ρ' h' bf' h4.k1 h2 h3
      cases d with
      | false => obtain ⟨f1, g1, hb, fr2, M2, ρ2, a, b, c, q⟩ := this; exact ⟨f1, g1, hb, fr2, M2, ρ2, a, b, h4.trans c, q⟩
      | true => obtain ⟨f1, g1, hb, fr2, M2, ρ2, a, b, c, q⟩ := this; exact ⟨f1, g1, hb, fr2, M2, ρ2, a, b, h4.trans c, q⟩
    unfold vo at hv
    cases hw : wantedV o.guard fr with
    | none => rw [hw] at hv; exact hv.elim
    | some b =>
      rw [hw] at hv
      have hwa := wanted_pr F hw
      cases b with
      | false =>
        rw [vg_false] at hv
        have := next hv m (F.put o.dst (.f (.tup (x := []) (x' := #[]) rfl (fun i v v' a => by simp at a)))) (.refl hk)
        cases d with
        | false => exact .skip hwa this
        | true => exact .skip hwa this
      | true =>
        rw [vg_true] at hv
        split at hv
        · rename_i f args ho
          have hc := hv lo n Z ρ h (f.ev bf) (args.map (·.ev bf)) m (opd_pr m F f) (LR.mapO fun x _ => opd_pr m F x)
          have fin : ∀ v h', ((d && !(o.seqd && o.late.isEmpty)) = true → Grow h h') ∧ (∃ r M' ρ', Mem Z n ρ' M' h' E lo ∧ PR Z n ρ' M' h' r v ∧ Up M.length ρ M h ρ' M' h' ∧ vo E d S Q os (putV fr o.dst r) M') →
              (d = true → Grow h h' ∨ (o.seqd = true ∧ o.late = [])) ∧ (match d with | false => WO E.env lo os (putF bf o.dst v) h' | true => WD E.env lo os (putF bf o.dst v) h') fun bf' h' => ∃ fr' M' ρ', Mem Z n ρ' M' h' E lo ∧ FR Z n ρ' M' h' fr' bf' ∧ Up k ρ M h ρ' M' h' ∧ Q fr' M' := by
            rintro v h' ⟨hg, r, M', ρ', m', pr, up, q⟩
            refine ⟨fun hd => ?_, next q m' ((F.up up).put o.dst pr) (up.less hk)⟩
            subst hd
            by_cases hs : (o.seqd && o.late.isEmpty) = true
            · simp only [Bool.and_eq_true, List.isEmpty_iff] at hs; exact .inr hs
            · exact .inl (hg (by simp [hs]))
          cases d with
          | false => exact .call hwa ho (hc.mono fun v h' hx => (fin v h' hx).2)
          | true => exact .call hwa ho (hc.mono fun v h' hx => ⟨(fin v h' hx).1 rfl, (fin v h' hx).2⟩)
        · obtain ⟨hd, hok⟩ := hv
          unfold okV at hok
          split at hok
          · rename_i v M' ha
            obtain ⟨w, h', ρ', h1, pr, m', up⟩ := aop_extra m F ha
            have := next hok m' ((F.up up).put o.dst pr) (up.less hk)
            cases d with
            | false => exact .op hwa h1 this
            | true =>
              refine .op hwa h1 ?_ this
              simp only [Bool.not_true, Bool.false_or, Bool.or_eq_true, Bool.and_eq_true] at hd
              rcases hd with (hd | hd) | hx
              · exact .inl hd
              · exact .inr (.inl (fresh_pr m F hd h1))
              · exact .inr (.inr ⟨hx.1, late_pr m F hx.2⟩)
          · exact hok.elim
theorem VW.ops {d : Bool} (S : List Nat) {ops : List AOper} (hv : vo E d S (Q .normal) ops fr M) : VW E k (.region d ops) fr M Q := .region (vo_VO hv)
end
end Go.RS

/- The value machine: calls, closures, loops over functions; what is forgotten. -/
namespace Go.RS
open Go

def argsLe (M : VM) : List PV → List PV → Prop
  | [], [] => True
  | a :: as, b :: bs => (a.fz M).le b ∧ argsLe M as bs
  | _, _ => False
theorem argsLe_get {M : VM} : ∀ {a b : List PV}, argsLe M a b → a.length = b.length ∧ ∀ (i : Nat) v w, a[i]? = some v → b[i]? = some w → (v.fz M).le w
  | [], [], _ => ⟨rfl, fun i v w h => by simp at h⟩
  | x :: a, y :: b, hl => by
    simp only [argsLe] at hl
    obtain ⟨h1, h2⟩ := argsLe_get hl.2
    refine ⟨by simp [h1], fun i v w hv hw => ?_⟩
    cases i with
    | zero => simp at hv hw; subst hv hw; exact hl.1
    | succ i => exact h2 i v w (by simpa using hv) (by simpa using hw)
  | [], _ :: _, hl => by simp [argsLe] at hl
  | _ :: _, [], hl => by simp [argsLe] at hl

section
variable {E : VEnv} {k : Nat} {fr : VFr} {M : VM} {Q : AExit → VFr → VM → Prop}

theorem args_fr {Z : Nat → Prop} {n : Nat} {ρ : Nat → Nat} {h : AH} {args : List PV} {ws : List Value} (p : LR Z n ρ M h args ws) : FR Z n ρ M h (argsV args) (argsFr ws) := by
  intro i
  unfold argsV argsFr
  rw [List.getD_eq_getElem?_getD, List.getD_eq_getElem?_getD]
  cases ha : args[i]? with
  | none =>
    have := List.getElem?_eq_none_iff.1 ha
    rw [List.getElem?_eq_none (by rw [← p.1]; omega)]
    exact .f (.undef _)
  | some a =>
    obtain ⟨w, hw, pw⟩ := p.get ha
    rw [hw]; exact pw
theorem results_pr {Z : Nat → Prop} {n lo : Nat} {ρ : Nat → Nat} {h : AH} {bf : Fr} (m : Mem Z n ρ M h E lo) (F : FR Z n ρ M h fr bf) {rs : List (Nat × Option (Option Nat))} {r : PV} (hr : resultsV rs fr M = some r) : ∃ w, resultsA rs bf h = some w ∧ PR Z n ρ M h r w := by
  have one : ∀ {x : Nat × Option (Option Nat)} {v : PV}, resultV fr M x = some v → ∃ w, resultA bf h x = some w ∧ PR Z n ρ M h v w := by
    intro x v hx
    obtain ⟨i, ag⟩ := x
    cases ag with
    | none => cases hx; exact ⟨bf i, rfl, F i⟩
    | some agg =>
      simp only [resultV] at hx
      obtain ⟨b, o, w, h1, h2, h3⟩ := loadV_rel m (F i) hx
      refine ⟨w, ?_, h3⟩
      simp only [resultA, h1]
      cases agg with
      | none => exact h2
      | some q => exact h2
  have all : ∀ {l : List (Nat × Option (Option Nat))} {vs : List PV}, l.mapM (resultV fr M) = some vs → ∃ ws, l.mapM (resultA bf h) = some ws ∧ LR Z n ρ M h vs ws := by
    intro l
    induction l with
    | nil => intro vs hv; simp at hv; subst hv; exact ⟨[], by simp, .nil⟩
    | cons x l ih =>
      intro vs hv
      simp only [List.mapM_cons, Option.bind_eq_bind, Option.bind_eq_some_iff] at hv
      obtain ⟨v, hv1, vs', hv2, hv3⟩ := hv
      cases hv3
      obtain ⟨w, g1, g2⟩ := one hv1
      obtain ⟨ws, g3, g4⟩ := ih hv2
      refine ⟨w :: ws, ?_, .cons g2 g4⟩
      simp only [List.mapM_cons, Option.bind_eq_bind, g1, g3, Option.bind_some]
      rfl
  unfold resultsV at hr
  unfold resultsA
  split at hr
  · rename_i v hv
    cases hr
    obtain ⟨ws, g1, g2⟩ := all hv
    match ws, g2 with
    | [w], g2 => simp only [g1]; exact ⟨w, rfl, g2.2 0 _ _ rfl rfl⟩
  · rename_i vs hne hv
    cases hr
    obtain ⟨ws, g1, g2⟩ := all hv
    simp only [g1]
    match ws, g2 with
    | [], g2 => exact ⟨_, rfl, .tup' g2⟩
    | [w], g2 =>
      match vs, g2, hne with
      | [v], _, hne => exact absurd rfl (hne v)
    | a :: b :: c, g2 => exact ⟨_, rfl, .tup' g2⟩
  · cases hr

/-- **A function that turns nothing.** -/
theorem VP.func {f : Nat} {A : AFn} {args : List PV} {r : PV} (hG : E.env.fn f = some A) (hn : args.length ≤ A.ntmps)
    (hw : VW E 0 A.body (argsV args) [] fun e fr M => (e = .normal ∨ e = .ret) ∧ ∃ r', resultsV A.results fr M = some r' ∧ (r'.fz M).le r) : VP E f args r := by
  intro lo Z h ws hlo hgl hL
  have hown : ∀ ρ b, ¬ Owned ρ ([] : VM) b := fun ρ b ⟨t, o, h1, _⟩ => by simp at h1
  have hzf : ∀ b, b < h.size → Z b → Zf Z h.size (fun _ => 0) [] b ∧ h[b]? = h[b]? := fun b _ hz => ⟨⟨fun _ => hz, hown _ b⟩, rfl⟩
  have m : Mem Z h.size (fun _ => 0) [] h E lo := ⟨hlo, Nat.le_refl _, fun t o h1 => by simp at h1, fun t t' o o' h1 => by simp at h1, hgl⟩
  have hLR : LR Z h.size (fun _ => 0) [] h args ws := (hL.mono hzf).lr
  refine WF.func hG (by simpa [← hL.1] using hn) ?_
  have := hw lo h.size Z (fun _ => 0) h (argsFr ws) (Nat.zero_le _) m (args_fr hLR)
  have e : (#[] : Array Value).toList ++ ws ++ (#[] : Array Value).toList = ws := by simp
  rw [e]
  refine this.mono ?_
  rintro e bf' h' ⟨fr', M', ρ', m', F', up, he, r', hr, hle⟩
  obtain ⟨w, h1, h2⟩ := results_pr m' F' hr
  refine ⟨he, w, h1, ⟨up.hs, fun b hb => (up.own b hb (hown _ b)).1⟩, ?_⟩
  refine PF.le ?_ hle
  refine h2.fz m' ?_
  rintro b (hb | hb) hlt
  · exact hb.1 hlt
  · have := (m'.own_lt hb).1; omega

/-- **A call of a function that turns nothing.** -/
theorem VC.pure {g : Bool} {f : Nat} {args args' : List PV} {r : PV} {K : PV → VM → Prop} (hp : VP E f args' r) (ha : argsLe M args args') (hb : r.flat = true ∨ PV.isFL args = true) (hk : K r M) : VC E g (.func f [] []) args M K := by
  intro lo n Z ρ h w ws m pf pa
  obtain ⟨x', c', rfl, hx, hc⟩ := pf.func_inv
  have e1 : x' = #[] := Array.eq_empty_of_size_eq_zero (by simpa using hx.1.symm)
  have e2 : c' = #[] := Array.eq_empty_of_size_eq_zero (by simpa using hc.1.symm)
  subst e1 e2
  obtain ⟨hal, hag⟩ := argsLe_get ha
  have hlo : lo ≤ h.size := Nat.le_trans m.nlo m.nh
  have fin : ∀ v h', Grow h h' → PR Z n ρ M h' r v → ((g = true → Grow h h') ∧ ∃ r M' ρ', Mem Z n ρ' M' h' E lo ∧ PR Z n ρ' M' h' r v ∧ Up M.length ρ M h ρ' M' h' ∧ K r M') := fun v h' hg hr =>
    let ⟨q1, q2⟩ := m.grow (Nat.le_refl _) hg; ⟨fun _ => hg, r, M, ρ, q1, hr, q2, hk⟩
  rcases hb with hb | hb
  · refine (hp lo (fun _ => True) h ws hlo (fun x c hx => ?_) ⟨?_, fun i v' w a b => ?_⟩).mono fun v h' ⟨hg, hr⟩ => fin v h' hg (.f (flat_any hb hr))
    · obtain ⟨h1, h2, h3, h4⟩ := m.gl x c hx
      exact ⟨h1, Nat.lt_of_lt_of_le h2 m.nh, trivial, h4⟩
    · rw [← hal]; exact pa.1
    · have hlt := (List.getElem?_eq_some_iff.1 a).1
      have ga := List.getElem?_eq_getElem (l := args) (i := i) (by omega)
      exact ((pa.2 i _ w ga b).fz m fun _ _ => trivial).le (hag i _ v' ga a)
  · refine (hp lo (Zf Z n ρ M) h ws hlo (fun x c hx => ?_) ⟨?_, fun i v' w a b => ?_⟩).mono fun v h' ⟨hg, hr⟩ => fin v h' hg (.f (hr.mono fun b hb hz => ⟨?_, rfl⟩))
    · obtain ⟨h1, h2, h3, h4⟩ := m.gl x c hx
      exact ⟨h1, Nat.lt_of_lt_of_le h2 m.nh, gl_free m h2 h3, h4⟩
    · rw [← hal]; exact pa.1
    · have hlt := (List.getElem?_eq_some_iff.1 a).1
      have ga := List.getElem?_eq_getElem (l := args) (i := i) (by omega)
      exact (((pa.2 i _ w ga b).toF (isFL_mem hb _ (List.mem_of_getElem? ga))).fz).le (hag i _ v' ga a)
    · by_cases hbs : b < h.size
      · exact hz hbs
      · exact ⟨fun hx => by have := m.nh; omega, fun hx => by have := (m.own_lt hx).2; omega⟩

/-- A call that shares memory. -/
theorem VC.func {f : Nat} {A : AFn} {first cap args : List PV} {K : PV → VM → Prop} (hG : E.env.fn f = some A) (hn : (first ++ args ++ cap).length ≤ A.ntmps)
    (hw : VW E M.length A.body (argsV (first ++ args ++ cap)) M fun e fr M' => (e = .normal ∨ e = .ret) ∧ ∃ r, resultsV A.results fr M' = some r ∧ K r M') : VC E false (.func f first cap) args M K := by
  intro lo n Z ρ h w ws m pf pa
  obtain ⟨x', c', rfl, hx, hc⟩ := pf.func_inv
  have hL : LR Z n ρ M h (first ++ args ++ cap) (x'.toList ++ ws ++ c'.toList) := (hx.append pa).append hc
  refine WF.func hG (by rw [← hL.1]; exact hn) ?_
  refine (hw lo n Z ρ h _ (Nat.le_refl _) m (args_fr hL)).mono ?_
  rintro e bf' h' ⟨fr', M', ρ', m', F', up, he, r, hr, hk⟩
  obtain ⟨w, h1, h2⟩ := results_pr m' F' hr
  exact ⟨he, w, h1, by simp, r, M', ρ', m', h2, up, hk⟩
theorem VC.mono {g : Bool} {f : PV} {args : List PV} {K K' : PV → VM → Prop} (hw : VC E g f args M K) (hk : ∀ r m, K r m → K' r m) : VC E g f args M K' :=
  fun lo n Z ρ h w ws m pf pa => (hw lo n Z ρ h w ws m pf pa).mono fun v h' ⟨a, r, M', ρ', b, c, d, e⟩ => ⟨a, r, M', ρ', b, c, d, hk _ _ e⟩

theorem loop_obj {Z : Nat → Prop} {n lo : Nat} {ρ : Nat → Nat} {h : AH} (m : Mem Z n ρ M h E lo) {t : Nat} {L : VLoop} (ht : M[t]? = some (.loop L)) : n ≤ ρ t ∧ ∃ L', h[ρ t]? = some (.loop L') ∧ FR Z n ρ M h L.fr L'.fr ∧ L'.params = L.params ∧ L'.assign = L.assign ∧ L'.body = L.body ∧ L'.state = L.state ∧ L'.pending = L.pending := by
  obtain ⟨g1, ao, g2, L', rfl, g3⟩ := m.obj t _ ht trivial
  exact ⟨g1, L', g2, g3⟩
theorem loop_set {Z : Nat → Prop} {n lo : Nat} {ρ : Nat → Nat} {h : AH} (m : Mem Z n ρ M h E lo) (hk : k ≤ M.length) {t : Nat} {L : VLoop} (ht : M[t]? = some (.loop L)) {L' : ALoop} (hL : h[ρ t]? = some (.loop L')) (F : FR Z n ρ M h L.fr L'.fr)
    (h1 : L'.params = L.params) (h2 : L'.assign = L.assign) (h3 : L'.body = L.body) (st : LoopState) (pd : Option Jump) :
    Mem Z n ρ (M.set t (.loop { L with state := st, pending := pd })) (h.setIfInBounds (ρ t) (.loop { L' with state := st, pending := pd })) E lo ∧ Up k ρ M h ρ (M.set t (.loop { L with state := st, pending := pd })) (h.setIfInBounds (ρ t) (.loop { L' with state := st, pending := pd })) :=
  m.turn hk ht trivial trivial fun up => ⟨_, rfl, F.up up, h1, h2, h3, rfl, rfl⟩
theorem setParams_fr {Z : Nat → Prop} {n : Nat} {ρ : Nat → Nat} {h : AH} : ∀ {ps : List Nat} {fr : VFr} {bf : Fr} {args : List PV} {ws : List Value}, FR Z n ρ M h fr bf → LR Z n ρ M h args ws → FR Z n ρ M h (setParamsV fr ps args) (setParams bf ps ws)
  | [], fr, bf, args, ws, F, p => by cases args <;> cases ws <;> exact F
  | q :: ps, fr, bf, [], ws, F, p => by
    have : ws = [] := List.eq_nil_of_length_eq_zero p.1.symm
    subst this; exact F
  | q :: ps, fr, bf, a :: args, ws, F, p => by
    cases ws with
    | nil => exact absurd p.1 (by simp)
    | cons w ws =>
      exact setParams_fr (ps := ps) (F.set (p.2 0 _ _ rfl rfl)) ⟨by simpa using p.1, fun i v v' a b => p.2 (i + 1) v v' (by simpa using a) (by simpa using b)⟩

/-- The body of a loop over a function is called. -/
theorem VC.yield {t : Nat} {L : VLoop} {args : List PV} {K : PV → VM → Prop} (ht : M[t]? = some (.loop L)) (hn : args.length = L.params.length)
    (hw : VW E M.length L.assign (setParamsV L.fr L.params args) M fun e fr1 M1 => e = .normal ∧ ∃ L1, M1[t]? = some (.loop L1) ∧ L1.state = .ready ∧
      VW E M.length L.body fr1 (M1.set t (.loop { L1 with state := .busy })) fun e fr2 M2 => ∃ L2, M2[t]? = some (.loop L2) ∧ K (.bool e.goesOn) (M2.set t (.loop { L2 with state := e.stateAfter, pending := e.jump }))) :
    VC E false (.yield t) args M K := by
  intro lo n Z ρ h w ws m pf pa
  obtain ⟨hlo, L', hL', F, l1, l2, l3, l4, l5⟩ := loop_obj m ht
  cases pf with
  | f p => cases p
  | @yield _ r htl hm =>
    have hr := hm L ht
    subst hr
    have F0 : FR Z n ρ M h (setParamsV L.fr L.params args) (setParams L'.fr L'.params ws) := by rw [l1]; exact setParams_fr F pa
    obtain ⟨e1, bf1, h1, hb1, fr1, M1, ρ1, m1, F1, up1, rfl, L1, hL1, hs1, hw1⟩ := hw lo n Z ρ h _ (Nat.le_refl _) m F0
    obtain ⟨_, L1', hL1', G1, a1, a2, a3, a4, a5⟩ := loop_obj m1 hL1
    have er : ρ1 t = ρ t := (up1.loop t L1 htl hL1).2
    obtain ⟨m2, up2⟩ := loop_set m1 up1.k1 hL1 hL1' G1 a1 a2 a3 .busy L1.pending
    have G2 := F1.up (up2.less (Nat.le_refl _) |> fun x => (loop_set m1 (Nat.le_refl _) hL1 hL1' G1 a1 a2 a3 .busy L1.pending).2)
    obtain ⟨e2, bf2, h2, hb2, fr2, M2, ρ2, m3, F2, up3, L2, hL2, hk⟩ := hw1 lo n Z ρ1 _ bf1 up2.k1 m2 G2
    obtain ⟨_, L2', hL2', G3, b1, b2, b3, b4, b5⟩ := loop_obj m3 hL2
    obtain ⟨m4, up4⟩ := loop_set m3 up3.k1 hL2 hL2' G3 b1 b2 b3 e2.stateAfter e2.jump
    have er2 : ρ2 t = ρ1 t := (up3.loop t L2 htl hL2).2
    rw [← er2, ] at er2
    have e12 : ρ2 t = ρ t := (up3.loop t L2 htl hL2).2.trans er
    refine ⟨.bool e2.goesOn, _, .fn_yield (L := L') (L1 := L1') (L2 := L2') (Nat.le_trans m.nlo hlo) hL' (by rw [l1, ← pa.1]; exact hn) (by rw [l2]; exact hb1) (by rw [← er]; exact hL1') (a4.trans hs1)
      (by rw [l3, ← er]; have := hb2; rw [show L1.pending = L1'.pending from a5.symm] at this; exact this) (by rw [← e12]; exact hL2'), by simp, .bool e2.goesOn, _, ρ2, ?_, .f (.bool _), ?_, hk⟩
    · rw [← e12]; exact m4
    · rw [← e12]; exact ((up1.trans up2).trans up3).trans up4

/-- A loop over a function. -/
theorem VW.rangeFunc {f : Opd} {ps : List Nat} {assign body : ACode} {g : Nat} {first cap : List PV} (hf : f.evV E fr = .func g first cap)
    (hc : VC E false (.func g first cap) [.yield M.length] (M ++ [.loop ⟨fr, ps, assign, body, .ready, none⟩]) fun r M' => ∃ L, M'[M.length]? = some (.loop L) ∧ L.state ≠ .busy ∧ Q (pendExit L.pending) fr (M'.set M.length (.loop { L with state := .exhausted }))) :
    VW E k (.rangeFunc f ps assign body) fr M Q := by
  intro lo n Z ρ h bf hk m F
  have pf := opd_pr m F f
  rw [hf] at pf
  have pf0 := pf
  obtain ⟨x', c', hw, hx, hcc⟩ := pf.func_inv
  have up0 := push_up m (.loop ⟨fr, ps, assign, body, .ready, none⟩) (.loop ⟨bf, ps, assign, body, .ready, none⟩)
  obtain ⟨m1, _⟩ := m.push (Nat.le_refl _) (.loop ⟨fr, ps, assign, body, .ready, none⟩) (.loop ⟨bf, ps, assign, body, .ready, none⟩) ⟨_, rfl, F.up up0, rfl, rfl, rfl, rfl, rfl⟩
  have py : PR Z n (rset ρ M.length h.size) (M ++ [.loop ⟨fr, ps, assign, body, .ready, none⟩]) (h.push (.loop ⟨bf, ps, assign, body, .ready, none⟩)) (.yield M.length) (.func (.yield h.size) #[] #[]) :=
    .yield (by simp) fun L _ => (rset_same _ _).symm
  obtain ⟨v, h2, hb, _, r, M2, ρ2, m2, _, up2, L, hL, hst, hq⟩ := hc lo n Z _ _ _ _ m1 (pf0.up up0) (.cons py .nil)
  rw [hw] at hb
  obtain ⟨_, L', hL', G, a1, a2, a3, a4, a5⟩ := loop_obj m2 hL
  have er : ρ2 M.length = h.size := ((up2.loop M.length L (by simp) hL).2).trans (rset_same _ _)
  have up02 : Up M.length ρ M h ρ2 M2 h2 := up0.trans (up2.less (by simp))
  obtain ⟨m3, up3⟩ := loop_set m2 up02.k1 hL hL' G a1 a2 a3 .exhausted L.pending
  have up03 := up02.trans up3
  refine ⟨pendExit L'.pending, bf, _, .rangeFunc (L := L') (by rw [hw]) hb (by rw [← er]; exact hL') (by rw [a4]; exact hst), fr, _, ρ2, ?_, ?_, ?_, by rw [a5]; exact hq⟩
  · have := m3; rw [show L.pending = L'.pending from a5.symm] at this; rw [← er, ← a5]; exact this
  · have := F.up up03; rw [← er]; rw [show L.pending = L'.pending from a5.symm] at this; rw [← a5]; exact this
  · have := up03.less hk; rw [show L.pending = L'.pending from a5.symm] at this; rw [← er, ← a5]; exact this

/-! ### What is forgotten -/
def mkF : List (Nat × PV) → VFr
  | [] => fun _ => .undef
  | (i, v) :: r => updV (mkF r) i v
theorem mkF_mem : ∀ {l : List (Nat × PV)} {i : Nat}, mkF l i = .undef ∨ (i, mkF l i) ∈ l
  | [], i => .inl rfl
  | (j, v) :: r, i => by
    by_cases h : i = j
    · subst h; exact .inr (by simp [mkF, updV])
    · rcases mkF_mem (l := r) (i := i) with h1 | h1
      · exact .inl (by simp [mkF, updV, h, h1])
      · refine .inr (List.mem_cons_of_mem _ ?_)
        have : mkF ((j, v) :: r) i = mkF r i := by simp [mkF, updV, h]
        rw [this]; exact h1
/-- Slots and objects are forgotten. -/
theorem VW.cut {c : ACode} (l : List (Nat × PV)) (j : Nat) (hkj : k ≤ j) (hj : j ≤ M.length) (hl : ∀ p ∈ l, (fr p.1).le p.2 ∧ p.2.und j = true) (hM : ∀ o ∈ M.take j, o.und j) (hw : VW E k c (mkF l) (M.take j) Q) : VW E k c fr M Q := by
  intro lo n Z ρ h bf hk m F
  obtain ⟨m1, up1⟩ := m.take hkj hj fun t o ht ho => hM o (List.mem_of_getElem? (by rw [List.getElem?_take_of_lt ht]; exact ho))
  refine VW.after hw m1 (fun i => ?_) up1
  rcases mkF_mem (l := l) (i := i) with h1 | h1
  · rw [h1]; exact .f (.undef _)
  · obtain ⟨h2, h3⟩ := hl _ h1
    exact ((F i).le h2).take hj h3
/-- Less is known of the slots. -/
theorem VW.less {c : ACode} (l : List (Nat × PV)) (hl : ∀ p ∈ l, (fr p.1).le p.2) (hw : VW E k c (mkF l) M Q) : VW E k c fr M Q := by
  intro lo n Z ρ h bf hk m F
  refine VW.after hw m (fun i => ?_) (.refl hk)
  rcases mkF_mem (l := l) (i := i) with h1 | h1
  · rw [h1]; exact .f (.undef _)
  · exact (F i).le (hl _ h1)
theorem Mem.dead {Z : Nat → Prop} {n lo : Nat} {ρ : Nat → Nat} {h : AH} (m : Mem Z n ρ M h E lo) (hk : k ≤ M.length) (o : VObj) (ho : ¬ Live o) : Mem Z n ρ (M ++ [o]) h E lo ∧ Up k ρ M h ρ (M ++ [o]) h := by
  have old : ∀ {t : Nat} {x : VObj}, (M ++ [o])[t]? = some x → Live x → M[t]? = some x := by
    intro t x hx hl
    by_cases ht : t < M.length
    · rwa [List.getElem?_append_left ht] at hx
    · rw [List.getElem?_append_right (by omega)] at hx
      cases hd : t - M.length with
      | zero => rw [hd] at hx; simp at hx; subst hx; exact absurd hl ho
      | succ q => rw [hd] at hx; simp at hx
  have lt : ∀ {t : Nat}, t < M.length → (M ++ [o])[t]? = M[t]? := fun ht => List.getElem?_append_left ht
  have up : Up M.length ρ M h ρ (M ++ [o]) h := by
    refine ⟨Nat.le_refl _, by simp, fun t c ht hc => ⟨c, ?_, Nat.le_refl _, fun _ _ => rfl⟩, fun t es x ht hm => ⟨⟨es, x, by rwa [lt ht] at hm⟩, rfl⟩, fun t L ht hm => ⟨⟨L, by rwa [lt ht] at hm⟩, rfl⟩, fun b hb hx => ⟨rfl, fun ⟨t, x, h1, h2, h3⟩ => hx ⟨t, x, old h1 h2, h2, h3⟩⟩, Nat.le_refl _⟩
    unfold vcells at hc ⊢
    rwa [lt ht] at hc
  refine ⟨⟨m.nlo, m.nh, fun t x hx hl => ?_, fun t t' x y hx hy l1 l2 he => m.inj t t' x y (old hx l1) (old hy l2) l1 l2 he, m.gl⟩, up.less hk⟩
  obtain ⟨g1, ao, g2, g3⟩ := m.obj t x (old hx hl) hl
  exact ⟨g1, ao, g2, g3.up up⟩
/-- A nil slice to which one will append. -/
theorem VW.declare {c : ACode} (i e : Nat) (hi : fr i = .nilS) (hw : VW E k c (updV fr i (.sl M.length 0 0 0 (openCap + e) e)) (M ++ [.vec []]) Q) : VW E k c fr M Q := by
  intro lo n Z ρ h bf hk m F
  obtain ⟨m1, up1⟩ := m.dead (Nat.le_refl _) (.vec []) (by simp [Live])
  refine VW.after hw m1 (fun j => ?_) (up1.less hk)
  unfold updV
  split
  · rename_i hj
    subst hj
    have := F j
    rw [hi] at this
    rw [this.nilS_inv]
    exact .sl0 (by simp)
  · exact (F j).up up1
/-- An own list is not written any more. -/
theorem VW.freeze {c : ACode} (i : Nat) {t len o q cap e : Nat} (hi : fr i = .sl t len o q cap e) (hw : VW E k c (updV fr i (fzSl M t len o q cap e)) (M.set t .gone) Q) : VW E k c fr M Q := by
  intro lo n Z ρ h bf hk m F
  obtain ⟨m1, up1⟩ := m.gone (Nat.le_refl _) t
  refine VW.after hw m1 (fun j => ?_) (up1.less hk)
  unfold updV
  split
  · rename_i hj
    subst hj
    have p := F j
    rw [hi] at p
    refine .f (fzSl_rel m (fun b hb => ⟨hb.1, fun hx => ?_⟩) (fun ob h1 h2 => ⟨fun hx => ?_, fun hx => ?_⟩) p)
    · obtain ⟨t', x, h1, h2, h3⟩ := hx
      refine hb.2 ⟨t', x, ?_, h2, h3⟩
      by_cases he : t' = t
      · subst he
        have := (List.getElem?_eq_some_iff.1 h1).1
        rw [List.getElem?_set_self (by simpa using this)] at h1
        cases h1; exact h2.elim
      · rwa [List.getElem?_set_ne (Ne.symm he)] at h1
    · have := (m.obj t ob h1 h2).1; omega
    · obtain ⟨t', x, g1, g2, g3⟩ := hx
      by_cases he : t' = t
      · subst he
        have := (List.getElem?_eq_some_iff.1 g1).1
        rw [List.getElem?_set_self (by simpa using this)] at g1
        cases g1; exact g2.elim
      · rw [List.getElem?_set_ne (Ne.symm he)] at g1
        exact he (m.inj t' t x ob g1 h1 g2 h2 g3)
  · exact (F j).up up1
theorem VP.le {f : Nat} {args : List PV} {r r' : PV} (hp : VP E f args r) (hl : r.le r') : VP E f args r' :=
  fun lo Z h ws h1 h2 h3 => (hp lo Z h ws h1 h2 h3).mono fun _ _ ⟨a, b⟩ => ⟨a, b.le hl⟩
theorem VW.bound {c : ACode} (i : Nat) {ex : Bool} {q e : Nat} {cs : List PV} (hi : fr i = .lst ex q e cs) (hw : q < 9223372036854775808 → VW E k c fr M Q) : VW E k c fr M Q := by
  intro lo n Z ρ h bf hk m F
  refine hw ?_ lo n Z ρ h bf hk m F
  have p := F i
  rw [hi] at p
  rcases lst_of p with ⟨rfl, _⟩ | ⟨b, o, cap, c, _, _, _, _, _, h1, _⟩
  · decide
  · exact h1
mutual
/-- Lists are not longer than can be. -/
def PV.bnd : PV → Prop
  | .lst _ n _ _ => n < 9223372036854775808
  | .agg cs | .tup cs => bndL cs
  | _ => True
def PV.bndL : List PV → Prop
  | [] => True
  | v :: vs => v.bnd ∧ bndL vs
end
theorem bndL_of : ∀ {l : List PV}, (∀ v ∈ l, v.bnd) → PV.bndL l
  | [], _ => trivial
  | x :: l, h => ⟨h x (by simp), bndL_of fun v hv => h v (by simp [hv])⟩
theorem PF.bnd {Z : Nat → Prop} {h : AH} {v : PV} {w : Value} (p : PF Z h v w) : v.bnd := by
  induction p with
  | lst0 => simp [PV.bnd]
  | lst _ _ _ _ _ _ _ hn => exact hn
  | agg s hx ih =>
    rename_i x x'
    refine bndL_of fun v hv => ?_
    obtain ⟨i, hi⟩ := List.getElem?_of_mem hv
    have hlt : i < x'.size := by rw [← s]; exact (List.getElem?_eq_some_iff.1 hi).1
    exact ih i v x'[i] hi (Array.getElem?_eq_getElem hlt)
  | tup s hx ih =>
    rename_i x x'
    refine bndL_of fun v hv => ?_
    obtain ⟨i, hi⟩ := List.getElem?_of_mem hv
    have hlt : i < x'.size := by rw [← s]; exact (List.getElem?_eq_some_iff.1 hi).1
    exact ih i v x'[i] hi (Array.getElem?_eq_getElem hlt)
  | _ => trivial
theorem VP.bound {f : Nat} {args : List PV} {r : PV} (hp : PV.bndL args → VP E f args r) : VP E f args r := by
  intro lo Z h ws h1 h2 h3
  refine hp (bndL_of fun v hv => ?_) lo Z h ws h1 h2 h3
  obtain ⟨i, hi⟩ := List.getElem?_of_mem hv
  obtain ⟨w, _, hw⟩ := h3.get hi
  exact hw.bnd
/-- What is kept of slots and objects. -/
def forgetL : List Nat → VM → VM
  | [], m => m
  | t :: g, m => forgetL g (m.set t .gone)
@[simp] theorem forgetL_nil (m : VM) : forgetL [] m = m := rfl
@[simp] theorem forgetL_cons (t : Nat) (g : List Nat) (m : VM) : forgetL (t :: g) m = forgetL g (m.set t .gone) := rfl
theorem forgetL_len : ∀ (g : List Nat) (m : VM), (forgetL g m).length = m.length
  | [], m => rfl
  | t :: g, m => by rw [forgetL_cons, forgetL_len g]; simp
theorem Mem.forget {Z : Nat → Prop} {n lo : Nat} {ρ : Nat → Nat} {h : AH} : ∀ (g : List Nat) {M : VM}, Mem Z n ρ M h E lo → k ≤ M.length → Mem Z n ρ (forgetL g M) h E lo ∧ Up k ρ M h ρ (forgetL g M) h ∧ (∀ {v : PV} {w : Value}, PR Z n ρ M h v w → PR Z n ρ (forgetL g M) h v w)
  | [], M, m, hk => ⟨m, .refl hk, fun p => p⟩
  | t :: g, M, m, hk => by
    obtain ⟨m1, up1⟩ := m.gone hk t
    have up1' := (m.gone (Nat.le_refl _) t).2
    obtain ⟨m2, up2, p2⟩ := Mem.forget g m1 up1.k1
    exact ⟨m2, up1.trans up2, fun p => p2 (p.up up1')⟩
def Cut (k : Nat) (f : VFr) (m : VM) (l : List (Nat × PV)) (M : VM) : Prop := ∃ j g, M = (forgetL g m).take j ∧ k ≤ j ∧ j ≤ m.length ∧ (∀ p ∈ l, (f p.1).le p.2 ∧ p.2.und j = true) ∧ ∀ o ∈ (forgetL g m).take j, o.und j
theorem VW.ofCut {c : ACode} {f : VFr} {m M : VM} {l : List (Nat × PV)} (hc : Cut k f m l M) (hw : VW E k c (mkF l) M Q) : VW E k c f m Q := by
  obtain ⟨j, g, rfl, h1, h2, h3, h4⟩ := hc
  intro lo n Z ρ h bf hk m F
  obtain ⟨m0, up0, p0⟩ := m.forget g hk
  exact VW.after (.cut l j h1 (by rw [forgetL_len]; exact h2) h3 h4 hw) m0 (fun i => p0 (F i)) up0
/-- A loop of at most N + 1 rounds; at its head only so much is known. -/
theorem VW.loop_cut {c : ACode} (Inv : Nat → List (Nat × PV) → VM → Prop) (N : Nat) (h0 : ∃ l M0, Inv 0 l M0 ∧ Cut k fr M l M0)
    (hs : ∀ i l m, i < N → Inv i l m → VW E k c (mkF l) m fun e f' m' => match e with | .normal => ∃ l' M', Inv (i + 1) l' M' ∧ Cut k f' m' l' M' | e => Q e f' m')
    (hn : ∀ l m, Inv N l m → VW E k c (mkF l) m fun e f' m' => match e with | .normal => False | e => Q e f' m') : VW E k (.loop c) fr M Q := by
  have key : ∀ j i f m l M0, N - i = j → i ≤ N → Inv i l M0 → Cut k f m l M0 → VW E k (.loop c) f m Q := by
    intro j
    induction j with
    | zero =>
      intro i f m l M0 h1 h2 hi hc
      have : i = N := by omega
      subst this
      refine .loop (.ofCut hc ((hn l M0 hi).mono ?_))
      intro e f' m' q
      cases e with
      | normal => exact q.elim
      | exit id => exact q
      | ret => exact q
    | succ j ih =>
      intro i f m l M0 h1 h2 hi hc
      refine .loop (.ofCut hc ((hs i l M0 (by omega) hi).mono ?_))
      intro e f' m' q
      cases e with
      | normal => obtain ⟨l', M', q1, q2⟩ := q; exact ih (i + 1) f' m' l' M' (by omega) (by omega) q1 q2
      | exit id => exact q
      | ret => exact q
  obtain ⟨l, M0, h1, h2⟩ := h0
  exact key N 0 fr M l M0 (by omega) (Nat.zero_le _) h1 h2
/-- What a loop ends with: at 'id' so much is known. -/
def LoopQ (k id : Nat) (l : List (Nat × PV)) (M' : VM) (P : Prop) (Q : AExit → VFr → VM → Prop) (e : AExit) (f : VFr) (m : VM) : Prop := match e with
  | .exit i => if i = id then P ∧ Cut k f m l M' else Q (.exit i) f m
  | e => Q e f m
@[simp] theorem LoopQ_exit (id i : Nat) (l : List (Nat × PV)) (M' : VM) (P : Prop) (f : VFr) (m : VM) : LoopQ k id l M' P Q (.exit i) f m = if i = id then P ∧ Cut k f m l M' else Q (.exit i) f m := rfl
@[simp] theorem LoopQ_ret (id : Nat) (l : List (Nat × PV)) (M' : VM) (P : Prop) (f : VFr) (m : VM) : LoopQ k id l M' P Q .ret f m = Q .ret f m := rfl
@[simp] theorem LoopQ_normal (id : Nat) (l : List (Nat × PV)) (M' : VM) (P : Prop) (f : VFr) (m : VM) : LoopQ k id l M' P Q .normal f m = Q .normal f m := rfl
theorem VW.loop_to {c : ACode} (id : Nat) (l : List (Nat × PV)) (M' : VM) (P : Prop) (hl : VW E k (.loop c) fr M (LoopQ k id l M' P Q)) (hn : P → ∀ f m, Cut k f m l M' → Q (.exit id) f m) : VW E k (.loop c) fr M Q :=
  hl.mono fun e f m hx => by
    cases e with
    | exit i =>
      rw [LoopQ_exit] at hx
      split at hx
      · rename_i h; subst h; exact hn hx.1 f m hx.2
      · exact hx
    | normal => exact hx
    | ret => exact hx
/-- One statement, and what is known behind it. -/
theorem VW.seq_cut {a b : ACode} (l : List (Nat × PV)) (M' : VM) (ha : VW E k a fr M fun e f m => e = .normal ∧ Cut k f m l M') (hb : VW E k b (mkF l) M' Q) : VW E k (.seq a b) fr M Q :=
  .seq (ha.mono fun e f m ⟨he, hc⟩ => by subst he; exact .ofCut hc hb)
@[simp] theorem thenV_normal {b : ACode} : thenV E k b Q .normal fr M = VW E k b fr M Q := rfl
@[simp] theorem thenV_ret {b : ACode} : thenV E k b Q .ret fr M = Q .ret fr M := rfl
@[simp] theorem thenV_exit {b : ACode} {id : Nat} : thenV E k b Q (.exit id) fr M = Q (.exit id) fr M := rfl
end
end Go.RS

/- The value machine: an own list in a box is not written any more. -/
namespace Go.RS
open Go
section
variable {E : VEnv} {k : Nat} {fr : VFr} {M : VM} {Q : AExit → VFr → VM → Prop}
theorem set_same {h : AH} {i : Nat} {a : AObj} (hb : h[i]? = some a) : h.setIfInBounds i a = h := by
  apply Array.ext
  · simp
  · intro j h1 h2
    rw [Array.getElem_setIfInBounds]
    split
    · rename_i he
      subst he
      rw [Array.getElem?_eq_getElem h2] at hb
      exact (Option.some.inj hb).symm
    · rfl
theorem VW.freezeM {c : ACode} (s i : Nat) {t len o q cap e : Nat} {cs : List PV} (hs : M[s]? = some (.cells cs)) (hc : cs[i]? = some (.sl t len o q cap e)) (hst : t ≠ s)
    (hw : VW E k c fr ((M.set t .gone).set s (.cells (cs.set i (fzSl M t len o q cap e)))) Q) : VW E k c fr M Q := by
  intro lo n Z ρ h bf hk m F
  obtain ⟨m1, up1⟩ := m.gone (Nat.le_refl _) t
  have hs1 : (M.set t .gone)[s]? = some (.cells cs) := by rw [List.getElem?_set_ne hst]; exact hs
  have hne : Live (.cells cs) := by rintro rfl; simp at hc
  obtain ⟨_, ao, hb, w, rfl, hL⟩ := m.obj s _ hs hne
  have hsl := (List.getElem?_eq_some_iff.1 hs).1
  have low : ∀ {o' : VObj} {x : Nat}, Owned ρ ((M.set t .gone).set s o') x → Live o' → Owned ρ M x ∧ ((∃ ob, M[t]? = some ob ∧ Live ob) → x ≠ ρ t) := by
    intro o' x hx hlo
    obtain ⟨t', o2, h1, h2, h3⟩ := hx
    by_cases he : t' = s
    · subst he
      refine ⟨⟨t', _, hs, hne, h3⟩, fun ⟨ob, g1, g2⟩ hxt => ?_⟩
      exact hst (m.inj t t' ob _ g1 hs g2 hne (by rw [h3, hxt]))
    · rw [List.getElem?_set_ne (Ne.symm he)] at h1
      by_cases ht : t' = t
      · subst ht
        have := (List.getElem?_eq_some_iff.1 h1).1
        rw [List.getElem?_set_self (by simpa using this)] at h1
        cases h1; exact h2.elim
      · rw [List.getElem?_set_ne (Ne.symm ht)] at h1
        refine ⟨⟨t', o2, h1, h2, h3⟩, fun ⟨ob, g1, g2⟩ hxt => ?_⟩
        exact ht (m.inj t' t o2 ob h1 g1 h2 g2 (by rw [h3, hxt]))
  have hne' : Live (.cells (cs.set i (fzSl M t len o q cap e))) := by
    intro h0
    have := congrArg List.length h0
    simp at this
    exact hne this
  have T := Mem.turn m1 (k := (M.set t .gone).length) (Nat.le_refl _) hs1 hne (o' := .cells (cs.set i (fzSl M t len o q cap e))) (ao := .cells w) (by simp [SameK]) (fun up => ⟨w, rfl, by simp [hL.1], fun j v v' a b => ?_⟩)
  · rw [set_same hb] at T
    obtain ⟨m2, up2⟩ := T
    have e : (M.set t .gone).length = M.length := by simp
    rw [e] at up2
    exact VW.after hw m2 ((F.up up1).up (by rw [e]; exact up2)) ((up1.trans up2).less hk)
  · rw [set_same hb] at up ⊢
    by_cases hj : j = i
    · subst hj
      have hjl := (List.getElem?_eq_some_iff.1 hc).1
      rw [List.getElem?_set_self hjl] at a
      cases a
      have p := hL.2 j _ v' hc b
      refine .f (fzSl_rel m (fun b hb => ⟨hb.1, fun hx => hb.2 (low hx hne').1⟩) (fun ob h1 h2 => ⟨fun hx => ?_, fun hx => (low hx hne').2 ⟨ob, h1, h2⟩ rfl⟩) p)
      have := (m.obj t ob h1 h2).1; omega
    · rw [List.getElem?_set_ne (Ne.symm hj)] at a
      exact ((hL.2 j v v' a b).up up1).up up
end
end Go.RS

