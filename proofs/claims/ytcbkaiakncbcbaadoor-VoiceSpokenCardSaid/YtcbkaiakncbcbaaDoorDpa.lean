/- Kinds of data of the chapter. -/
import Derived.Test.YtcbkaiakncbcbaaDoorPvc
set_option linter.all false
namespace Go.RS.DC
open Go Go.RS
open Go.RS.Enc (enc dec)
structure Decree where
  Day : Int
  Plus : Bool
  deriving DecidableEq
instance elDecree : El Decree where
  sz := 2
  cells x := [enc x.Day, enc x.Plus]
  un cs := match cs with | [v0, v1] => (dec v0).bind fun a0 => (dec v1).bind fun a1 => some ⟨a0, a1⟩ | _ => none
  len _ := rfl
  un_le := by
    intro cs a h
    split at h
    · simp only [Option.bind_eq_some_iff, Option.some.injEq] at h
      obtain ⟨x0, h0, x1, h1, rfl⟩ := h
      exact ⟨Enc.dec_le h0, Enc.dec_le h1, trivial⟩
    · cases h
  un_cells x := by simp only [Enc.dec_enc, Option.bind_some]
  isF x := by simp only [PV.isFL, Bool.and_eq_true, and_true]; exact ⟨rfl, rfl⟩
instance encDecree : Enc Decree := encOfEl Decree
@[simp] theorem sz_Decree : El.sz Decree = 2 := rfl
@[simp] theorem cells_Decree (x : Decree) : El.cells x = [enc x.Day, enc x.Plus] := rfl
@[simp] theorem enc_Decree (x : Decree) : enc x = PV.agg [enc x.Day, enc x.Plus] := rfl
@[simp] theorem dec_Decree (v0 v1 : PV) : (dec (PV.agg [v0, v1]) : Option Decree) = (dec v0).bind fun a0 => (dec v1).bind fun a1 => some ⟨a0, a1⟩ := rfl
@[simp] theorem eta_Decree (x : Decree) : (Decree.mk x.Day x.Plus) = x := rfl
@[simp] theorem decl_Decree (ex : Bool) (q : Nat) (l : List Decree) (h : q = l.length) : (dec (PV.lst ex q 2 (encL l)) : Option (List Decree)) = some l := by subst h; exact dec_lst ex l
theorem get_Decree (l : List Decree) (k : Nat) (h : k < l.length) : List.drop (k * 2) (encL l) = [enc l[k].Day, enc l[k].Plus] ++ encL (l.drop (k + 1)) := encL_get l k h
@[simp] theorem decf_Decree (M : VM) (t : Nat) (out : List Decree) (h : M[t]? = some (.vec (encL out))) : (dec (fzSl M t (out.length * 2) 0 out.length (openCap + 2) 2) : Option (List Decree)) = some out := dec_fzSl M t out h (by decide)
@[simp] theorem lef_Decree (M : VM) (t : Nat) (out : List Decree) (h : M[t]? = some (.vec (encL out))) : (fzSl M t (out.length * 2) 0 out.length (openCap + 2) 2).le (.lst false out.length 2 (encL out)) = True := le_fzSl M t out h (by decide)
structure Cal where
  Hours : Int
  Minutes : Int
  Seconds : Int
  Days : Int
  Decrees : (List Decree)
  deriving DecidableEq
instance elCal : El Cal where
  sz := 5
  cells x := [enc x.Hours, enc x.Minutes, enc x.Seconds, enc x.Days, enc x.Decrees]
  un cs := match cs with | [v0, v1, v2, v3, v4] => (dec v0).bind fun a0 => (dec v1).bind fun a1 => (dec v2).bind fun a2 => (dec v3).bind fun a3 => (dec v4).bind fun a4 => some ⟨a0, a1, a2, a3, a4⟩ | _ => none
  len _ := rfl
  un_le := by
    intro cs a h
    split at h
    · simp only [Option.bind_eq_some_iff, Option.some.injEq] at h
      obtain ⟨x0, h0, x1, h1, x2, h2, x3, h3, x4, h4, rfl⟩ := h
      exact ⟨Enc.dec_le h0, Enc.dec_le h1, Enc.dec_le h2, Enc.dec_le h3, Enc.dec_le h4, trivial⟩
    · cases h
  un_cells x := by simp only [Enc.dec_enc, Option.bind_some]
  isF x := by simp only [PV.isFL, Bool.and_eq_true, and_true]; exact ⟨rfl, rfl, rfl, rfl, rfl⟩
instance encCal : Enc Cal := encOfEl Cal
@[simp] theorem sz_Cal : El.sz Cal = 5 := rfl
@[simp] theorem cells_Cal (x : Cal) : El.cells x = [enc x.Hours, enc x.Minutes, enc x.Seconds, enc x.Days, enc x.Decrees] := rfl
@[simp] theorem enc_Cal (x : Cal) : enc x = PV.agg [enc x.Hours, enc x.Minutes, enc x.Seconds, enc x.Days, enc x.Decrees] := rfl
@[simp] theorem dec_Cal (v0 v1 v2 v3 v4 : PV) : (dec (PV.agg [v0, v1, v2, v3, v4]) : Option Cal) = (dec v0).bind fun a0 => (dec v1).bind fun a1 => (dec v2).bind fun a2 => (dec v3).bind fun a3 => (dec v4).bind fun a4 => some ⟨a0, a1, a2, a3, a4⟩ := rfl
@[simp] theorem eta_Cal (x : Cal) : (Cal.mk x.Hours x.Minutes x.Seconds x.Days x.Decrees) = x := rfl
@[simp] theorem decl_Cal (ex : Bool) (q : Nat) (l : List Cal) (h : q = l.length) : (dec (PV.lst ex q 5 (encL l)) : Option (List Cal)) = some l := by subst h; exact dec_lst ex l
@[simp] theorem decf_Cal (M : VM) (t : Nat) (out : List Cal) (h : M[t]? = some (.vec (encL out))) : (dec (fzSl M t (out.length * 5) 0 out.length (openCap + 5) 5) : Option (List Cal)) = some out := dec_fzSl M t out h (by decide)
@[simp] theorem lef_Cal (M : VM) (t : Nat) (out : List Cal) (h : M[t]? = some (.vec (encL out))) : (fzSl M t (out.length * 5) 0 out.length (openCap + 5) 5).le (.lst false out.length 5 (encL out)) = True := le_fzSl M t out h (by decide)
structure Reading where
  Day : Int
  Hour : Int
  Minute : Int
  Second : Int
  deriving DecidableEq
instance elReading : El Reading where
  sz := 4
  cells x := [enc x.Day, enc x.Hour, enc x.Minute, enc x.Second]
  un cs := match cs with | [v0, v1, v2, v3] => (dec v0).bind fun a0 => (dec v1).bind fun a1 => (dec v2).bind fun a2 => (dec v3).bind fun a3 => some ⟨a0, a1, a2, a3⟩ | _ => none
  len _ := rfl
  un_le := by
    intro cs a h
    split at h
    · simp only [Option.bind_eq_some_iff, Option.some.injEq] at h
      obtain ⟨x0, h0, x1, h1, x2, h2, x3, h3, rfl⟩ := h
      exact ⟨Enc.dec_le h0, Enc.dec_le h1, Enc.dec_le h2, Enc.dec_le h3, trivial⟩
    · cases h
  un_cells x := by simp only [Enc.dec_enc, Option.bind_some]
  isF x := by simp only [PV.isFL, Bool.and_eq_true, and_true]; exact ⟨rfl, rfl, rfl, rfl⟩
instance encReading : Enc Reading := encOfEl Reading
@[simp] theorem sz_Reading : El.sz Reading = 4 := rfl
@[simp] theorem cells_Reading (x : Reading) : El.cells x = [enc x.Day, enc x.Hour, enc x.Minute, enc x.Second] := rfl
@[simp] theorem enc_Reading (x : Reading) : enc x = PV.agg [enc x.Day, enc x.Hour, enc x.Minute, enc x.Second] := rfl
@[simp] theorem dec_Reading (v0 v1 v2 v3 : PV) : (dec (PV.agg [v0, v1, v2, v3]) : Option Reading) = (dec v0).bind fun a0 => (dec v1).bind fun a1 => (dec v2).bind fun a2 => (dec v3).bind fun a3 => some ⟨a0, a1, a2, a3⟩ := rfl
@[simp] theorem eta_Reading (x : Reading) : (Reading.mk x.Day x.Hour x.Minute x.Second) = x := rfl
@[simp] theorem decl_Reading (ex : Bool) (q : Nat) (l : List Reading) (h : q = l.length) : (dec (PV.lst ex q 4 (encL l)) : Option (List Reading)) = some l := by subst h; exact dec_lst ex l
@[simp] theorem decf_Reading (M : VM) (t : Nat) (out : List Reading) (h : M[t]? = some (.vec (encL out))) : (dec (fzSl M t (out.length * 4) 0 out.length (openCap + 4) 4) : Option (List Reading)) = some out := dec_fzSl M t out h (by decide)
@[simp] theorem lef_Reading (M : VM) (t : Nat) (out : List Reading) (h : M[t]? = some (.vec (encL out))) : (fzSl M t (out.length * 4) 0 out.length (openCap + 4) 4).le (.lst false out.length 4 (encL out)) = True := le_fzSl M t out h (by decide)
structure Change where
  Tick : Int
  Ahead : Int
  deriving DecidableEq
instance elChange : El Change where
  sz := 2
  cells x := [enc x.Tick, enc x.Ahead]
  un cs := match cs with | [v0, v1] => (dec v0).bind fun a0 => (dec v1).bind fun a1 => some ⟨a0, a1⟩ | _ => none
  len _ := rfl
  un_le := by
    intro cs a h
    split at h
    · simp only [Option.bind_eq_some_iff, Option.some.injEq] at h
      obtain ⟨x0, h0, x1, h1, rfl⟩ := h
      exact ⟨Enc.dec_le h0, Enc.dec_le h1, trivial⟩
    · cases h
  un_cells x := by simp only [Enc.dec_enc, Option.bind_some]
  isF x := by simp only [PV.isFL, Bool.and_eq_true, and_true]; exact ⟨rfl, rfl⟩
instance encChange : Enc Change := encOfEl Change
@[simp] theorem sz_Change : El.sz Change = 2 := rfl
@[simp] theorem cells_Change (x : Change) : El.cells x = [enc x.Tick, enc x.Ahead] := rfl
@[simp] theorem enc_Change (x : Change) : enc x = PV.agg [enc x.Tick, enc x.Ahead] := rfl
@[simp] theorem dec_Change (v0 v1 : PV) : (dec (PV.agg [v0, v1]) : Option Change) = (dec v0).bind fun a0 => (dec v1).bind fun a1 => some ⟨a0, a1⟩ := rfl
@[simp] theorem eta_Change (x : Change) : (Change.mk x.Tick x.Ahead) = x := rfl
@[simp] theorem decl_Change (ex : Bool) (q : Nat) (l : List Change) (h : q = l.length) : (dec (PV.lst ex q 2 (encL l)) : Option (List Change)) = some l := by subst h; exact dec_lst ex l
@[simp] theorem decf_Change (M : VM) (t : Nat) (out : List Change) (h : M[t]? = some (.vec (encL out))) : (dec (fzSl M t (out.length * 2) 0 out.length (openCap + 2) 2) : Option (List Change)) = some out := dec_fzSl M t out h (by decide)
@[simp] theorem lef_Change (M : VM) (t : Nat) (out : List Change) (h : M[t]? = some (.vec (encL out))) : (fzSl M t (out.length * 2) 0 out.length (openCap + 2) 2).le (.lst false out.length 2 (encL out)) = True := le_fzSl M t out h (by decide)
structure Town where
  Ahead : Int
  Changes : (List Change)
  deriving DecidableEq
instance elTown : El Town where
  sz := 2
  cells x := [enc x.Ahead, enc x.Changes]
  un cs := match cs with | [v0, v1] => (dec v0).bind fun a0 => (dec v1).bind fun a1 => some ⟨a0, a1⟩ | _ => none
  len _ := rfl
  un_le := by
    intro cs a h
    split at h
    · simp only [Option.bind_eq_some_iff, Option.some.injEq] at h
      obtain ⟨x0, h0, x1, h1, rfl⟩ := h
      exact ⟨Enc.dec_le h0, Enc.dec_le h1, trivial⟩
    · cases h
  un_cells x := by simp only [Enc.dec_enc, Option.bind_some]
  isF x := by simp only [PV.isFL, Bool.and_eq_true, and_true]; exact ⟨rfl, rfl⟩
instance encTown : Enc Town := encOfEl Town
@[simp] theorem sz_Town : El.sz Town = 2 := rfl
@[simp] theorem cells_Town (x : Town) : El.cells x = [enc x.Ahead, enc x.Changes] := rfl
@[simp] theorem enc_Town (x : Town) : enc x = PV.agg [enc x.Ahead, enc x.Changes] := rfl
@[simp] theorem dec_Town (v0 v1 : PV) : (dec (PV.agg [v0, v1]) : Option Town) = (dec v0).bind fun a0 => (dec v1).bind fun a1 => some ⟨a0, a1⟩ := rfl
@[simp] theorem eta_Town (x : Town) : (Town.mk x.Ahead x.Changes) = x := rfl
@[simp] theorem decl_Town (ex : Bool) (q : Nat) (l : List Town) (h : q = l.length) : (dec (PV.lst ex q 2 (encL l)) : Option (List Town)) = some l := by subst h; exact dec_lst ex l
@[simp] theorem decf_Town (M : VM) (t : Nat) (out : List Town) (h : M[t]? = some (.vec (encL out))) : (dec (fzSl M t (out.length * 2) 0 out.length (openCap + 2) 2) : Option (List Town)) = some out := dec_fzSl M t out h (by decide)
@[simp] theorem lef_Town (M : VM) (t : Nat) (out : List Town) (h : M[t]? = some (.vec (encL out))) : (fzSl M t (out.length * 2) 0 out.length (openCap + 2) 2).le (.lst false out.length 2 (encL out)) = True := le_fzSl M t out h (by decide)
structure TownC where
  C : Cal
  T : Town
  deriving DecidableEq
instance elTownC : El TownC where
  sz := 7
  cells x := [enc x.C.Hours, enc x.C.Minutes, enc x.C.Seconds, enc x.C.Days, enc x.C.Decrees, enc x.T.Ahead, enc x.T.Changes]
  un cs := match cs with | [v0, v1, v2, v3, v4, v5, v6] => (dec v0).bind fun a0 => (dec v1).bind fun a1 => (dec v2).bind fun a2 => (dec v3).bind fun a3 => (dec v4).bind fun a4 => (dec v5).bind fun a5 => (dec v6).bind fun a6 => some ⟨⟨a0, a1, a2, a3, a4⟩, ⟨a5, a6⟩⟩ | _ => none
  len _ := rfl
  un_le := by
    intro cs a h
    split at h
    · simp only [Option.bind_eq_some_iff, Option.some.injEq] at h
      obtain ⟨x0, h0, x1, h1, x2, h2, x3, h3, x4, h4, x5, h5, x6, h6, rfl⟩ := h
      exact ⟨Enc.dec_le h0, Enc.dec_le h1, Enc.dec_le h2, Enc.dec_le h3, Enc.dec_le h4, Enc.dec_le h5, Enc.dec_le h6, trivial⟩
    · cases h
  un_cells x := by simp only [Enc.dec_enc, Option.bind_some]
  isF x := by simp only [PV.isFL, Bool.and_eq_true, and_true]; exact ⟨rfl, rfl, rfl, rfl, rfl, rfl, rfl⟩
instance encTownC : Enc TownC := encOfEl TownC
@[simp] theorem sz_TownC : El.sz TownC = 7 := rfl
@[simp] theorem cells_TownC (x : TownC) : El.cells x = [enc x.C.Hours, enc x.C.Minutes, enc x.C.Seconds, enc x.C.Days, enc x.C.Decrees, enc x.T.Ahead, enc x.T.Changes] := rfl
@[simp] theorem enc_TownC (x : TownC) : enc x = PV.agg [enc x.C.Hours, enc x.C.Minutes, enc x.C.Seconds, enc x.C.Days, enc x.C.Decrees, enc x.T.Ahead, enc x.T.Changes] := rfl
@[simp] theorem dec_TownC (v0 v1 v2 v3 v4 v5 v6 : PV) : (dec (PV.agg [v0, v1, v2, v3, v4, v5, v6]) : Option TownC) = (dec v0).bind fun a0 => (dec v1).bind fun a1 => (dec v2).bind fun a2 => (dec v3).bind fun a3 => (dec v4).bind fun a4 => (dec v5).bind fun a5 => (dec v6).bind fun a6 => some ⟨⟨a0, a1, a2, a3, a4⟩, ⟨a5, a6⟩⟩ := rfl
@[simp] theorem eta_TownC (x : TownC) : (TownC.mk (Cal.mk x.C.Hours x.C.Minutes x.C.Seconds x.C.Days x.C.Decrees) (Town.mk x.T.Ahead x.T.Changes)) = x := rfl
@[simp] theorem decl_TownC (ex : Bool) (q : Nat) (l : List TownC) (h : q = l.length) : (dec (PV.lst ex q 7 (encL l)) : Option (List TownC)) = some l := by subst h; exact dec_lst ex l
@[simp] theorem decf_TownC (M : VM) (t : Nat) (out : List TownC) (h : M[t]? = some (.vec (encL out))) : (dec (fzSl M t (out.length * 7) 0 out.length (openCap + 7) 7) : Option (List TownC)) = some out := dec_fzSl M t out h (by decide)
@[simp] theorem lef_TownC (M : VM) (t : Nat) (out : List TownC) (h : M[t]? = some (.vec (encL out))) : (fzSl M t (out.length * 7) 0 out.length (openCap + 7) 7).le (.lst false out.length 7 (encL out)) = True := le_fzSl M t out h (by decide)
structure Span where
  Low : Int
  High : Int
  deriving DecidableEq
instance elSpan : El Span where
  sz := 2
  cells x := [enc x.Low, enc x.High]
  un cs := match cs with | [v0, v1] => (dec v0).bind fun a0 => (dec v1).bind fun a1 => some ⟨a0, a1⟩ | _ => none
  len _ := rfl
  un_le := by
    intro cs a h
    split at h
    · simp only [Option.bind_eq_some_iff, Option.some.injEq] at h
      obtain ⟨x0, h0, x1, h1, rfl⟩ := h
      exact ⟨Enc.dec_le h0, Enc.dec_le h1, trivial⟩
    · cases h
  un_cells x := by simp only [Enc.dec_enc, Option.bind_some]
  isF x := by simp only [PV.isFL, Bool.and_eq_true, and_true]; exact ⟨rfl, rfl⟩
instance encSpan : Enc Span := encOfEl Span
@[simp] theorem sz_Span : El.sz Span = 2 := rfl
@[simp] theorem cells_Span (x : Span) : El.cells x = [enc x.Low, enc x.High] := rfl
@[simp] theorem enc_Span (x : Span) : enc x = PV.agg [enc x.Low, enc x.High] := rfl
@[simp] theorem dec_Span (v0 v1 : PV) : (dec (PV.agg [v0, v1]) : Option Span) = (dec v0).bind fun a0 => (dec v1).bind fun a1 => some ⟨a0, a1⟩ := rfl
@[simp] theorem eta_Span (x : Span) : (Span.mk x.Low x.High) = x := rfl
@[simp] theorem decl_Span (ex : Bool) (q : Nat) (l : List Span) (h : q = l.length) : (dec (PV.lst ex q 2 (encL l)) : Option (List Span)) = some l := by subst h; exact dec_lst ex l
@[simp] theorem decf_Span (M : VM) (t : Nat) (out : List Span) (h : M[t]? = some (.vec (encL out))) : (dec (fzSl M t (out.length * 2) 0 out.length (openCap + 2) 2) : Option (List Span)) = some out := dec_fzSl M t out h (by decide)
@[simp] theorem lef_Span (M : VM) (t : Nat) (out : List Span) (h : M[t]? = some (.vec (encL out))) : (fzSl M t (out.length * 2) 0 out.length (openCap + 2) 2).le (.lst false out.length 2 (encL out)) = True := le_fzSl M t out h (by decide)
end Go.RS.DC

/- The chapter, as plain functions (1): calendars, ticks and readings. -/
namespace Go.RS.DC
open Go Go.RS
open Go.RS.Enc (enc dec)
def wi (n a b : Int) : Bool := decide (a ≤ n) && decide (n ≤ b)
theorem wi_iff (n a b : Int) : wi n a b = true ↔ a ≤ n ∧ n ≤ b := by simp [wi]
def moreR : List Decree → Int → Int
  | [], _ => 0
  | x :: r, d => (if x.Day = d then (if x.Plus then 1 else -1) else 0) + moreR r d
def lenR (c : Cal) (d : Int) : Int := c.Hours * c.Minutes * c.Seconds + moreR c.Decrees d
def begR (c : Cal) : Nat → Int
  | 0 => 0
  | d + 1 => begR c d + lenR c d
def allR (c : Cal) : Int := begR c c.Days.toNat
def climbD (n : Int) : Int → List Decree → Bool
  | _, [] => true
  | least, x :: r => wi x.Day least (n - 1) && climbD n (x.Day + 1) r
def headC (c : Cal) : Bool := wi c.Hours 1 24 && wi c.Minutes 1 60 && wi c.Seconds 2 60 && wi c.Days 1 10 && decide (c.Decrees.length ≤ 10)
def okC (c : Cal) : Bool := headC c && climbD c.Days 0 c.Decrees
theorem more_least (n : Int) : ∀ (l : List Decree) (least d : Int), climbD n least l = true → d < least → moreR l d = 0
  | [], _, _, _, _ => rfl
  | x :: r, least, d, h, hd => by
    simp only [climbD, Bool.and_eq_true, wi_iff] at h
    rw [moreR, if_neg (by omega), more_least n r (x.Day + 1) d h.2 (by omega)]; rfl
theorem more_b (n : Int) : ∀ (l : List Decree) (least d : Int), climbD n least l = true → -1 ≤ moreR l d ∧ moreR l d ≤ 1
  | [], _, _, _ => by simp [moreR]
  | x :: r, least, d, h => by
    simp only [climbD, Bool.and_eq_true, wi_iff] at h
    rw [moreR]
    by_cases hx : x.Day = d
    · rw [if_pos hx, more_least n r (x.Day + 1) d h.2 (by omega)]
      split <;> omega
    · rw [if_neg hx]
      have := more_b n r (x.Day + 1) d h.2
      omega
structure CalOk (c : Cal) : Prop where
  h1 : 1 ≤ c.Hours
  h2 : c.Hours ≤ 24
  m1 : 1 ≤ c.Minutes
  m2 : c.Minutes ≤ 60
  s1 : 2 ≤ c.Seconds
  s2 : c.Seconds ≤ 60
  d1 : 1 ≤ c.Days
  d2 : c.Days ≤ 10
  dl : c.Decrees.length ≤ 10
  cl : climbD c.Days 0 c.Decrees = true
  hm1 : 1 ≤ c.Hours * c.Minutes
  hm2 : c.Hours * c.Minutes ≤ 1440
  w1 : c.Hours * c.Minutes * c.Seconds = (c.Hours * c.Minutes - 1) * c.Seconds + c.Seconds
  w2 : 0 ≤ (c.Hours * c.Minutes - 1) * c.Seconds
  w3 : c.Hours * c.Minutes * c.Seconds ≤ 86400
  mb : ∀ d, -1 ≤ moreR c.Decrees d ∧ moreR c.Decrees d ≤ 1
  lb : ∀ d, 1 ≤ lenR c d ∧ lenR c d ≤ 86401
theorem okC_ok {c : Cal} (h : okC c = true) : CalOk c := by
  simp only [okC, headC, Bool.and_eq_true, wi_iff, decide_eq_true_eq] at h
  obtain ⟨⟨⟨⟨⟨⟨h1, h2⟩, ⟨m1, m2⟩⟩, ⟨s1, s2⟩⟩, ⟨d1, d2⟩⟩, dl⟩, cl⟩ := h
  have hm1 : 1 * 1 ≤ c.Hours * c.Minutes := Int.mul_le_mul (by omega) (by omega) (by omega) (by omega)
  have hm2 : c.Hours * c.Minutes ≤ 24 * 60 := Int.mul_le_mul (by omega) (by omega) (by omega) (by omega)
  have w2 : 0 ≤ (c.Hours * c.Minutes - 1) * c.Seconds := Int.mul_nonneg (by omega) (by omega)
  have w1 : c.Hours * c.Minutes * c.Seconds = (c.Hours * c.Minutes - 1) * c.Seconds + c.Seconds := by rw [Int.sub_mul]; omega
  have w3 : c.Hours * c.Minutes * c.Seconds ≤ 1440 * 60 := Int.mul_le_mul (by omega) (by omega) (by omega) (by omega)
  have mb : ∀ d, -1 ≤ moreR c.Decrees d ∧ moreR c.Decrees d ≤ 1 := fun d => more_b _ _ _ d cl
  refine ⟨h1, h2, m1, m2, s1, s2, d1, d2, dl, cl, by omega, by omega, w1, w2, by omega, mb, fun d => ?_⟩
  have := mb d
  unfold lenR
  omega
theorem begR_lt {c : Cal} (o : CalOk c) (d : Nat) : begR c d < begR c (d + 1) := by
  rw [begR]; have := o.lb d; omega
theorem begR_mono {c : Cal} (o : CalOk c) {d e : Nat} (h : d ≤ e) : begR c d ≤ begR c e := by
  induction e with
  | zero => obtain rfl : d = 0 := by omega
            exact Int.le_refl _
  | succ e ih =>
    by_cases hd : d = e + 1
    · subst hd; exact Int.le_refl _
    · have := ih (by omega); have := begR_lt o e; omega
theorem begR_b {c : Cal} (o : CalOk c) : ∀ d : Nat, 0 ≤ begR c d ∧ begR c d ≤ d * 86401
  | 0 => by simp [begR]
  | d + 1 => by
    rw [begR]
    have := begR_b o d
    have := o.lb d
    omega
theorem allR_b {c : Cal} (o : CalOk c) : 1 ≤ allR c ∧ allR c ≤ 864010 := by
  have h := begR_b o c.Days.toNat
  have d1 := o.d1
  have d2 := o.d2
  have h1 := begR_mono o (d := 1) (e := c.Days.toNat) (by omega)
  have h2 : begR c 1 = lenR c 0 := by simp [begR]
  have := o.lb 0
  unfold allR
  omega
/-! ### Readings -/
def dayL (c : Cal) (t : Int) : Nat → Nat → Nat
  | 0, d => d
  | n + 1, d => if t < begR c (d + 1) then d else dayL c t n (d + 1)
def dayR (c : Cal) (t : Int) : Nat := dayL c t c.Days.toNat 0
def minR (c : Cal) (left : Int) : Int := if left / c.Seconds < c.Hours * c.Minutes - 1 then left / c.Seconds else c.Hours * c.Minutes - 1
def leftR (c : Cal) (t : Int) : Int := t - begR c (dayR c t)
def readR (c : Cal) (t : Int) : Reading := ⟨dayR c t, minR c (leftR c t) / c.Minutes, minR c (leftR c t) % c.Minutes, leftR c t - minR c (leftR c t) * c.Seconds⟩
def secsR (c : Cal) (d m : Int) : Int := c.Seconds + if m = c.Hours * c.Minutes - 1 then moreR c.Decrees d else 0
def minOf (c : Cal) (r : Reading) : Int := r.Hour * c.Minutes + r.Minute
def validR (c : Cal) (r : Reading) : Bool := wi r.Day 0 (c.Days - 1) && wi r.Hour 0 (c.Hours - 1) && wi r.Minute 0 (c.Minutes - 1) && wi r.Second 0 (secsR c r.Day (minOf c r) - 1)
def tickR (c : Cal) (r : Reading) : Int := begR c r.Day.toNat + minOf c r * c.Seconds + r.Second
theorem dayL_spec {c : Cal} (o : CalOk c) (t : Int) : ∀ (n d : Nat), begR c d ≤ t → t < begR c (d + n) → d ≤ dayL c t n d ∧ dayL c t n d < d + n ∧ begR c (dayL c t n d) ≤ t ∧ t < begR c (dayL c t n d + 1)
  | 0, d, h1, h2 => by simp at h2; omega
  | n + 1, d, h1, h2 => by
    rw [dayL]
    by_cases h : t < begR c (d + 1)
    · rw [if_pos h]; exact ⟨by omega, by omega, h1, h⟩
    · rw [if_neg h]
      obtain ⟨g1, g2, g3, g4⟩ := dayL_spec o t n (d + 1) (by omega) (by rw [show d + 1 + n = d + (n + 1) by omega]; exact h2)
      exact ⟨by omega, by omega, g3, g4⟩
theorem dayR_spec {c : Cal} (o : CalOk c) {t : Int} (h0 : 0 ≤ t) (h1 : t < allR c) : dayR c t < c.Days.toNat ∧ begR c (dayR c t) ≤ t ∧ t < begR c (dayR c t + 1) := by
  obtain ⟨_, g2, g3, g4⟩ := dayL_spec o t c.Days.toNat 0 h0 (by rw [Nat.zero_add]; exact h1)
  exact ⟨by unfold dayR; omega, g3, g4⟩
theorem day_uniq {c : Cal} (o : CalOk c) {t : Int} {d e : Nat} (h1 : begR c d ≤ t) (h2 : t < begR c (d + 1)) (h3 : begR c e ≤ t) (h4 : t < begR c (e + 1)) : d = e := by
  by_cases h : d < e
  · have := begR_mono o (d := d + 1) (e := e) (by omega); omega
  · by_cases h' : e < d
    · have := begR_mono o (d := e + 1) (e := d) (by omega); omega
    · omega
/-- A minute and what is left. -/
theorem min_split {c : Cal} (o : CalOk c) {left d : Int} (h0 : 0 ≤ left) (h1 : left < lenR c d) :
    0 ≤ minR c left ∧ minR c left ≤ c.Hours * c.Minutes - 1 ∧ 0 ≤ left - minR c left * c.Seconds ∧ left - minR c left * c.Seconds ≤ secsR c d (minR c left) - 1 := by
  have s1 := o.s1
  have w1 := o.w1
  have hm1 := o.hm1
  have e1 := Int.mul_ediv_add_emod left c.Seconds
  have e2 := Int.emod_nonneg left (show c.Seconds ≠ 0 by omega)
  have e3 := Int.emod_lt_of_pos left (show 0 < c.Seconds by omega)
  have q0 : 0 ≤ left / c.Seconds := Int.ediv_nonneg h0 (by omega)
  have mb := o.mb d
  unfold lenR at h1
  unfold minR secsR
  by_cases hq : left / c.Seconds < c.Hours * c.Minutes - 1
  · rw [if_pos hq, if_neg (by omega)]
    have e4 : left / c.Seconds * c.Seconds = c.Seconds * (left / c.Seconds) := Int.mul_comm _ _
    omega
  · rw [if_neg hq, if_pos rfl]
    have e4 : (c.Hours * c.Minutes - 1) * c.Seconds ≤ left / c.Seconds * c.Seconds := Int.mul_le_mul_of_nonneg_right (by omega) (by omega)
    have e5 : left / c.Seconds * c.Seconds = c.Seconds * (left / c.Seconds) := Int.mul_comm _ _
    omega
theorem min_join {c : Cal} (o : CalOk c) {m s d : Int} (h0 : 0 ≤ m) (h1 : m ≤ c.Hours * c.Minutes - 1) (h2 : 0 ≤ s) (h3 : s ≤ secsR c d m - 1) :
    0 ≤ m * c.Seconds + s ∧ m * c.Seconds + s < lenR c d ∧ minR c (m * c.Seconds + s) = m := by
  have s1 := o.s1
  have w1 := o.w1
  have mb := o.mb d
  have m0 : 0 ≤ m * c.Seconds := Int.mul_nonneg h0 (by omega)
  unfold secsR at h3
  unfold lenR minR
  by_cases hm : m = c.Hours * c.Minutes - 1
  · rw [if_pos hm] at h3
    have e2 : c.Hours * c.Minutes - 1 ≤ (m * c.Seconds + s) / c.Seconds := by
      rw [← hm]
      exact (Int.le_ediv_iff_mul_le (by omega)).2 (by omega)
    rw [if_neg (by omega), hm]
    rw [hm] at m0
    refine ⟨by omega, by omega, rfl⟩
  · rw [if_neg hm] at h3
    have e1 : (m * c.Seconds + s) / c.Seconds = m := by
      refine ((Int.ediv_emod_unique (r := s) (show 0 < c.Seconds by omega)).2 ⟨?_, by omega, by omega⟩).1
      rw [Int.mul_comm]; omega
    have e3 : (m + 1) * c.Seconds ≤ (c.Hours * c.Minutes - 1) * c.Seconds := Int.mul_le_mul_of_nonneg_right (by omega) (by omega)
    have e4 : (m + 1) * c.Seconds = m * c.Seconds + c.Seconds := by rw [Int.add_mul]; omega
    rw [e1, if_pos (by omega)]
    refine ⟨by omega, by omega, rfl⟩
/-- Each tick's reading is one, and its tick is it. -/
theorem read_valid {c : Cal} (o : CalOk c) {t : Int} (h0 : 0 ≤ t) (h1 : t < allR c) : validR c (readR c t) = true ∧ tickR c (readR c t) = t ∧ minOf c (readR c t) = minR c (leftR c t) := by
  obtain ⟨d1, d2, d3⟩ := dayR_spec o h0 h1
  have hd := o.d1
  have m1 := o.m1
  have hl0 : 0 ≤ leftR c t := by unfold leftR; omega
  have hl1 : leftR c t < lenR c (dayR c t) := by unfold leftR; rw [begR] at d3; omega
  obtain ⟨g1, g2, g3, g4⟩ := min_split o hl0 hl1
  have e1 := Int.mul_ediv_add_emod (minR c (leftR c t)) c.Minutes
  have e2 := Int.emod_nonneg (minR c (leftR c t)) (show c.Minutes ≠ 0 by omega)
  have e3 := Int.emod_lt_of_pos (minR c (leftR c t)) (show 0 < c.Minutes by omega)
  have q0 : 0 ≤ minR c (leftR c t) / c.Minutes := Int.ediv_nonneg g1 (by omega)
  have q1 : minR c (leftR c t) / c.Minutes < c.Hours := (Int.ediv_lt_iff_lt_mul (by omega)).2 (by omega)
  have hmin : minOf c (readR c t) = minR c (leftR c t) := by
    unfold minOf readR
    simp only
    rw [Int.mul_comm]; omega
  refine ⟨?_, ?_, hmin⟩
  · simp only [validR, Bool.and_eq_true, wi_iff, hmin]
    simp only [readR]
    exact ⟨⟨⟨⟨by omega, by omega⟩, by omega, by omega⟩, by omega, by omega⟩, g3, g4⟩
  · unfold tickR
    rw [hmin]
    simp only [readR, leftR]
    have : ((dayR c t : Nat) : Int).toNat = dayR c t := by omega
    rw [this]
    omega
end Go.RS.DC

/- The chapter, as plain functions (2): what is told; towns. -/
namespace Go.RS.DC
open Go Go.RS
open Go.RS.Enc (enc dec)
def zeroRd : Reading := ⟨0, 0, 0, 0⟩
def checkR (c : Cal) : Int := if okC c then 0 else 10
def ReadingR (c : Cal) (t : Int) : Reading × Int := if okC c then (if wi t 0 (allR c - 1) then (readR c t, 0) else (zeroRd, 11)) else (zeroRd, 10)
def nextL (c : Cal) (each : Int) : Nat → Int → Int × Int
  | 0, _ => (0, 4)
  | n + 1, t => if (readR c t).Second % each = 0 then (t, 0) else nextL c each n (t + 1)
def NextR (c : Cal) (t each : Int) : Int × Int :=
  if okC c then (if wi t 0 (allR c - 1) && wi each 1 60 then nextL c each (allR c - t).toNat t else (0, 11)) else (0, 10)
/-! ### Towns -/
def chgOk (all : Int) : Int → List Change → Bool
  | _, [] => true
  | last, x :: l => wi x.Tick (last + 1) (all - 1) && wi x.Ahead (-1440) 1440 && chgOk all x.Tick l
def aheadL : Int → List Change → Int → Int
  | n, [], _ => n
  | n, x :: l, k => aheadL (if x.Tick ≤ k then x.Ahead else n) l k
/-! ### Bounds of towns -/
structure TownOk (c : Cal) (t : Town) : Prop where
  a1 : -1440 ≤ t.Ahead
  a2 : t.Ahead ≤ 1440
  ln : t.Changes.length ≤ 6
  ch : chgOk (allR c) 0 t.Changes = true
  ab : ∀ k, -1440 ≤ aheadL t.Ahead t.Changes k ∧ aheadL t.Ahead t.Changes k ≤ 1440
/-! ### Moving a reading -/
/-! ### All ticks of a local reading -/
end Go.RS.DC

/- The chapter, as plain functions (3): the order of readings; what comes twice; the next announcement. -/
namespace Go.RS.DC
open Go Go.RS
open Go.RS.Enc (enc dec)
/-! ### What comes twice -/
/-! ### The order of readings -/
/-! ### The next tick whose second can be divided -/
theorem nextL_spec (c : Cal) (each : Int) : ∀ (n : Nat) (t : Int), (nextL c each n t = (0, 4) ∧ ∀ k, t ≤ k → k < t + n → (readR c k).Second % each ≠ 0) ∨
    (∃ k, nextL c each n t = (k, 0) ∧ t ≤ k ∧ k < t + n ∧ (readR c k).Second % each = 0 ∧ ∀ j, t ≤ j → j < k → (readR c j).Second % each ≠ 0)
  | 0, t => .inl ⟨rfl, fun k h1 h2 => by omega⟩
  | n + 1, t => by
    rw [nextL]
    by_cases h : (readR c t).Second % each = 0
    · rw [if_pos h]
      exact .inr ⟨t, rfl, by omega, by omega, h, fun j h1 h2 => by omega⟩
    · rw [if_neg h]
      rcases nextL_spec c each n (t + 1) with ⟨g1, g2⟩ | ⟨k, g1, g2, g3, g4, g5⟩
      · refine .inl ⟨g1, fun k h1 h2 => ?_⟩
        by_cases hk : k = t
        · subst hk; exact h
        · exact g2 k (by omega) (by omega)
      · refine .inr ⟨k, g1, by omega, by omega, g4, fun j h1 h2 => ?_⟩
        by_cases hj : j = t
        · subst hj; exact h
        · exact g5 j (by omega) h2
/-- The tick behind a tick's minute. -/
def endOf (c : Cal) (t : Int) : Int := t + (secsR c (dayR c t) (minR c (leftR c t)) - (readR c t).Second)
/-- There a minute begins, or the calendar ends. -/
theorem minute_end {c : Cal} (o : CalOk c) {t : Int} (h0 : 0 ≤ t) (h1 : t < allR c) : t < endOf c t ∧ endOf c t ≤ t + c.Seconds + 1 ∧ (endOf c t = allR c ∨ endOf c t < allR c ∧ (readR c (endOf c t)).Second = 0) := by
  obtain ⟨d1, d2, d3⟩ := dayR_spec o h0 h1
  have hl0 : 0 ≤ leftR c t := by unfold leftR; omega
  have hl1 : leftR c t < lenR c (dayR c t) := by unfold leftR; rw [begR] at d3; omega
  obtain ⟨g1, g2, g3, g4⟩ := min_split o hl0 hl1
  have mb := o.mb (dayR c t)
  have w1 := o.w1
  have hS : (readR c t).Second = leftR c t - minR c (leftR c t) * c.Seconds := rfl
  unfold endOf
  rw [hS]
  generalize hm : minR c (leftR c t) = m at *
  have hsec : secsR c (dayR c t) m ≤ c.Seconds + 1 := by unfold secsR; split <;> omega
  refine ⟨by omega, by omega, ?_⟩
  have hs1 := o.s1
  by_cases hlast : m = c.Hours * c.Minutes - 1
  · -- the next day begins
    have he : t + (secsR c (dayR c t) m - (leftR c t - m * c.Seconds)) = begR c (dayR c t + 1) := by
      rw [begR]
      unfold secsR lenR leftR
      rw [if_pos hlast, hlast]; omega
    rw [he]
    by_cases hend : dayR c t + 1 = c.Days.toNat
    · left; rw [hend]; rfl
    · right
      have hlt : begR c (dayR c t + 1) < allR c := by
        have := begR_mono o (d := dayR c t + 1 + 1) (e := c.Days.toNat) (by omega)
        have := begR_lt o (dayR c t + 1)
        unfold allR; omega
      refine ⟨hlt, ?_⟩
      have hb := begR_b o (dayR c t + 1)
      obtain ⟨x1, x2, x3⟩ := dayR_spec o hb.1 hlt
      have hday : dayR c (begR c (dayR c t + 1)) = dayR c t + 1 := day_uniq o x2 x3 (Int.le_refl _) (begR_lt o _)
      have hleft : leftR c (begR c (dayR c t + 1)) = 0 := by unfold leftR; rw [hday]; omega
      have hm0 : minR c 0 = 0 := by
        have hm1 := o.hm1
        unfold minR
        rw [Int.zero_ediv]
        split <;> omega
      simp only [readR, hleft, hm0]
      omega
  · right
    have hsec2 : secsR c (dayR c t) m = c.Seconds := by unfold secsR; rw [if_neg hlast]; omega
    rw [hsec2]
    have hj := min_join o (m := m + 1) (s := 0) (d := dayR c t) (by omega) (by omega) (Int.le_refl 0) (by unfold secsR; split <;> omega)
    obtain ⟨j1, j2, j3⟩ := hj
    have he : t + (c.Seconds - (leftR c t - m * c.Seconds)) = begR c (dayR c t) + ((m + 1) * c.Seconds + 0) := by
      have : (m + 1) * c.Seconds = m * c.Seconds + c.Seconds := by rw [Int.add_mul]; omega
      rw [this]
      unfold leftR; omega
    rw [he]
    have hb := begR_b o (dayR c t)
    have hlt2 : begR c (dayR c t) + ((m + 1) * c.Seconds + 0) < begR c (dayR c t + 1) := by rw [begR]; omega
    have hlt : begR c (dayR c t) + ((m + 1) * c.Seconds + 0) < allR c := by
      have := begR_mono o (d := dayR c t + 1) (e := c.Days.toNat) (by omega)
      unfold allR; omega
    refine ⟨hlt, ?_⟩
    obtain ⟨x1, x2, x3⟩ := dayR_spec o (t := begR c (dayR c t) + ((m + 1) * c.Seconds + 0)) (by omega) hlt
    have hday : dayR c (begR c (dayR c t) + ((m + 1) * c.Seconds + 0)) = dayR c t := day_uniq o x2 x3 (by omega) hlt2
    have hleft : leftR c (begR c (dayR c t) + ((m + 1) * c.Seconds + 0)) = (m + 1) * c.Seconds + 0 := by unfold leftR; rw [hday]; omega
    simp only [readR, hleft, j3]
    omega
theorem minute_near {c : Cal} (o : CalOk c) {t : Int} (h0 : 0 ≤ t) (h1 : t < allR c) : ∃ e, t < e ∧ e ≤ t + c.Seconds + 1 ∧ (e = allR c ∨ e < allR c ∧ (readR c e).Second = 0) := ⟨_, minute_end o h0 h1⟩
end Go.RS.DC

/- The chapter, as plain functions (4): days and decrees. -/
namespace Go.RS.DC
open Go Go.RS
open Go.RS.Enc (enc dec)
/-! ### Without its last decree -/
def cut (c : Cal) (l : List Decree) : Cal := ⟨c.Hours, c.Minutes, c.Seconds, c.Days, l⟩
structure CutOk (c : Cal) (l : List Decree) (x : Decree) (by_ : Int) : Prop where
  ok : okC (cut c l) = true
  d0 : 0 ≤ x.Day
  d1 : x.Day < c.Days
  len : ∀ d : Int, lenR c d = lenR (cut c l) d + if x.Day = d then by_ else 0
  lenx : lenR (cut c l) x.Day = c.Hours * c.Minutes * c.Seconds
  beg : ∀ e : Nat, begR c e = begR (cut c l) e + if x.Day < e then by_ else 0
end Go.RS.DC

/- The chapter, as plain functions (5): later readings; the announcement. -/
namespace Go.RS.DC
open Go Go.RS
open Go.RS.Enc (enc dec)
/-- What is told lies near. -/
structure NextOk (c : Cal) (each t : Int) (r : Int × Int) : Prop where
  ok : (r.2 = 0 ∧ t ≤ r.1 ∧ r.1 < allR c ∧ r.1 ≤ t + c.Seconds + 1 ∧ (readR c r.1).Second % each = 0 ∧ ∀ j, t ≤ j → j < r.1 → (readR c j).Second % each ≠ 0) ∨
    (r = (0, 4) ∧ allR c ≤ t + c.Seconds + 1 ∧ ∀ j, t ≤ j → j < allR c → (readR c j).Second % each ≠ 0)
theorem next_ok {c : Cal} (o : CalOk c) {each t : Int} (h0 : 0 ≤ t) (h1 : t < allR c) : NextOk c each t (nextL c each (allR c - t).toNat t) := by
  obtain ⟨e, e1, e2, e3⟩ := minute_near o h0 h1
  rcases nextL_spec c each (allR c - t).toNat t with ⟨g1, g2⟩ | ⟨k, g1, g2, g3, g4, g5⟩
  · rw [g1]
    refine ⟨.inr ⟨rfl, ?_, fun j a b => g2 j a (by omega)⟩⟩
    rcases e3 with e3 | ⟨e3, e4⟩
    · omega
    · exact absurd (by rw [e4]; exact Int.zero_emod _) (g2 e (by omega) (by omega))
  · rw [g1]
    refine ⟨.inl ⟨rfl, g2, by omega, ?_, g4, g5⟩⟩
    by_cases hk : k ≤ e
    · show k ≤ _; omega
    · rcases e3 with e3 | ⟨e3, e4⟩
      · omega
      · exact absurd (by rw [e4]; exact Int.zero_emod _) (g5 e (by omega) (by omega))
def fromR (s : Span) (n : Int) : Int := if s.High ≤ s.Low then s.Low else s.Low + n % (s.High - s.Low + 1)
theorem fromR_b (s : Span) (n : Int) (h : s.Low ≤ s.High) : s.Low ≤ fromR s n ∧ fromR s n ≤ s.High := by
  unfold fromR
  split
  · omega
  · have := Int.emod_nonneg n (show s.High - s.Low + 1 ≠ 0 by omega)
    have := Int.emod_lt_of_pos n (show 0 < s.High - s.Low + 1 by omega)
    omega
end Go.RS.DC

