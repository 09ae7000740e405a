/- Kinds of data of the chapter. -/
import Derived.Test.YtmlogniaahnamaaDoorPvc
set_option linter.all false
namespace Go.RS.DC
open Go Go.RS
open Go.RS.Enc (enc dec)
structure Decree where
  Day : Int
  Plus : Bool
  deriving DecidableEq
instance elDecree : El Decree where
  sz := 2
  cells x := [enc x.Day, enc x.Plus]
  un cs := match cs with | [v0, v1] => (dec v0).bind fun a0 => (dec v1).bind fun a1 => some ⟨a0, a1⟩ | _ => none
  len _ := rfl
  un_le := by
    intro cs a h
    split at h
    · simp only [Option.bind_eq_some_iff, Option.some.injEq] at h
      obtain ⟨x0, h0, x1, h1, rfl⟩ := h
      exact ⟨Enc.dec_le h0, Enc.dec_le h1, trivial⟩
    · cases h
  un_cells x := by simp only [Enc.dec_enc, Option.bind_some]
  isF x := by simp only [PV.isFL, Bool.and_eq_true, and_true]; exact ⟨rfl, rfl⟩
instance encDecree : Enc Decree := encOfEl Decree
@[simp] theorem sz_Decree : El.sz Decree = 2 := rfl
@[simp] theorem cells_Decree (x : Decree) : El.cells x = [enc x.Day, enc x.Plus] := rfl
@[simp] theorem enc_Decree (x : Decree) : enc x = PV.agg [enc x.Day, enc x.Plus] := rfl
@[simp] theorem dec_Decree (v0 v1 : PV) : (dec (PV.agg [v0, v1]) : Option Decree) = (dec v0).bind fun a0 => (dec v1).bind fun a1 => some ⟨a0, a1⟩ := rfl
@[simp] theorem eta_Decree (x : Decree) : (Decree.mk x.Day x.Plus) = x := rfl
@[simp] theorem decl_Decree (ex : Bool) (q : Nat) (l : List Decree) (h : q = l.length) : (dec (PV.lst ex q 2 (encL l)) : Option (List Decree)) = some l := by subst h; exact dec_lst ex l
theorem get_Decree (l : List Decree) (k : Nat) (h : k < l.length) : List.drop (k * 2) (encL l) = [enc l[k].Day, enc l[k].Plus] ++ encL (l.drop (k + 1)) := encL_get l k h
@[simp] theorem decf_Decree (M : VM) (t : Nat) (out : List Decree) (h : M[t]? = some (.vec (encL out))) : (dec (fzSl M t (out.length * 2) 0 out.length (openCap + 2) 2) : Option (List Decree)) = some out := dec_fzSl M t out h (by decide)
@[simp] theorem lef_Decree (M : VM) (t : Nat) (out : List Decree) (h : M[t]? = some (.vec (encL out))) : (fzSl M t (out.length * 2) 0 out.length (openCap + 2) 2).le (.lst false out.length 2 (encL out)) = True := le_fzSl M t out h (by decide)
structure Cal where
  Hours : Int
  Minutes : Int
  Seconds : Int
  Days : Int
  Decrees : (List Decree)
  deriving DecidableEq
instance elCal : El Cal where
  sz := 5
  cells x := [enc x.Hours, enc x.Minutes, enc x.Seconds, enc x.Days, enc x.Decrees]
  un cs := match cs with | [v0, v1, v2, v3, v4] => (dec v0).bind fun a0 => (dec v1).bind fun a1 => (dec v2).bind fun a2 => (dec v3).bind fun a3 => (dec v4).bind fun a4 => some ⟨a0, a1, a2, a3, a4⟩ | _ => none
  len _ := rfl
  un_le := by
    intro cs a h
    split at h
    · simp only [Option.bind_eq_some_iff, Option.some.injEq] at h
      obtain ⟨x0, h0, x1, h1, x2, h2, x3, h3, x4, h4, rfl⟩ := h
      exact ⟨Enc.dec_le h0, Enc.dec_le h1, Enc.dec_le h2, Enc.dec_le h3, Enc.dec_le h4, trivial⟩
    · cases h
  un_cells x := by simp only [Enc.dec_enc, Option.bind_some]
  isF x := by simp only [PV.isFL, Bool.and_eq_true, and_true]; exact ⟨rfl, rfl, rfl, rfl, rfl⟩
instance encCal : Enc Cal := encOfEl Cal
@[simp] theorem sz_Cal : El.sz Cal = 5 := rfl
@[simp] theorem cells_Cal (x : Cal) : El.cells x = [enc x.Hours, enc x.Minutes, enc x.Seconds, enc x.Days, enc x.Decrees] := rfl
@[simp] theorem enc_Cal (x : Cal) : enc x = PV.agg [enc x.Hours, enc x.Minutes, enc x.Seconds, enc x.Days, enc x.Decrees] := rfl
@[simp] theorem dec_Cal (v0 v1 v2 v3 v4 : PV) : (dec (PV.agg [v0, v1, v2, v3, v4]) : Option Cal) = (dec v0).bind fun a0 => (dec v1).bind fun a1 => (dec v2).bind fun a2 => (dec v3).bind fun a3 => (dec v4).bind fun a4 => some ⟨a0, a1, a2, a3, a4⟩ := rfl
@[simp] theorem eta_Cal (x : Cal) : (Cal.mk x.Hours x.Minutes x.Seconds x.Days x.Decrees) = x := rfl
@[simp] theorem decl_Cal (ex : Bool) (q : Nat) (l : List Cal) (h : q = l.length) : (dec (PV.lst ex q 5 (encL l)) : Option (List Cal)) = some l := by subst h; exact dec_lst ex l
@[simp] theorem decf_Cal (M : VM) (t : Nat) (out : List Cal) (h : M[t]? = some (.vec (encL out))) : (dec (fzSl M t (out.length * 5) 0 out.length (openCap + 5) 5) : Option (List Cal)) = some out := dec_fzSl M t out h (by decide)
@[simp] theorem lef_Cal (M : VM) (t : Nat) (out : List Cal) (h : M[t]? = some (.vec (encL out))) : (fzSl M t (out.length * 5) 0 out.length (openCap + 5) 5).le (.lst false out.length 5 (encL out)) = True := le_fzSl M t out h (by decide)
structure Reading where
  Day : Int
  Hour : Int
  Minute : Int
  Second : Int
  deriving DecidableEq
instance elReading : El Reading where
  sz := 4
  cells x := [enc x.Day, enc x.Hour, enc x.Minute, enc x.Second]
  un cs := match cs with | [v0, v1, v2, v3] => (dec v0).bind fun a0 => (dec v1).bind fun a1 => (dec v2).bind fun a2 => (dec v3).bind fun a3 => some ⟨a0, a1, a2, a3⟩ | _ => none
  len _ := rfl
  un_le := by
    intro cs a h
    split at h
    · simp only [Option.bind_eq_some_iff, Option.some.injEq] at h
      obtain ⟨x0, h0, x1, h1, x2, h2, x3, h3, rfl⟩ := h
      exact ⟨Enc.dec_le h0, Enc.dec_le h1, Enc.dec_le h2, Enc.dec_le h3, trivial⟩
    · cases h
  un_cells x := by simp only [Enc.dec_enc, Option.bind_some]
  isF x := by simp only [PV.isFL, Bool.and_eq_true, and_true]; exact ⟨rfl, rfl, rfl, rfl⟩
instance encReading : Enc Reading := encOfEl Reading
@[simp] theorem sz_Reading : El.sz Reading = 4 := rfl
@[simp] theorem cells_Reading (x : Reading) : El.cells x = [enc x.Day, enc x.Hour, enc x.Minute, enc x.Second] := rfl
@[simp] theorem enc_Reading (x : Reading) : enc x = PV.agg [enc x.Day, enc x.Hour, enc x.Minute, enc x.Second] := rfl
@[simp] theorem dec_Reading (v0 v1 v2 v3 : PV) : (dec (PV.agg [v0, v1, v2, v3]) : Option Reading) = (dec v0).bind fun a0 => (dec v1).bind fun a1 => (dec v2).bind fun a2 => (dec v3).bind fun a3 => some ⟨a0, a1, a2, a3⟩ := rfl
@[simp] theorem eta_Reading (x : Reading) : (Reading.mk x.Day x.Hour x.Minute x.Second) = x := rfl
@[simp] theorem decl_Reading (ex : Bool) (q : Nat) (l : List Reading) (h : q = l.length) : (dec (PV.lst ex q 4 (encL l)) : Option (List Reading)) = some l := by subst h; exact dec_lst ex l
@[simp] theorem decf_Reading (M : VM) (t : Nat) (out : List Reading) (h : M[t]? = some (.vec (encL out))) : (dec (fzSl M t (out.length * 4) 0 out.length (openCap + 4) 4) : Option (List Reading)) = some out := dec_fzSl M t out h (by decide)
@[simp] theorem lef_Reading (M : VM) (t : Nat) (out : List Reading) (h : M[t]? = some (.vec (encL out))) : (fzSl M t (out.length * 4) 0 out.length (openCap + 4) 4).le (.lst false out.length 4 (encL out)) = True := le_fzSl M t out h (by decide)
theorem app_Reading (M : VM) (t bytes : Nat) (out : List Reading) (x : Reading) (h : M[t]? = some (.vec (encL out))) (hf : fits (out.length + 1) bytes = true) :
    appendV M 4 bytes (.sl t (out.length * 4) 0 out.length (openCap + 4) 4) (.lst true 1 4 [PV.int .i64 x.Day, PV.int .i64 x.Hour, PV.int .i64 x.Minute, PV.int .i64 x.Second]) = some (.sl t ((out.length + 1) * 4) 0 (out.length + 1) (openCap + 4) 4, M.set t (.vec (encL (out ++ [x])))) := append_one M t bytes out x h (by decide) hf rfl
theorem beq_Reading (x y : Reading) : (x.Day == y.Day && (x.Hour == y.Hour && (x.Minute == y.Minute && (x.Second == y.Second)))) = decide (x = y) := by
  rw [Bool.eq_iff_iff]
  constructor
  · intro h
    simp only [Bool.and_eq_true, beq_iff_eq] at h
    obtain ⟨h0, h1, h2, h3⟩ := h
    rw [decide_eq_true_eq, ← eta_Reading x, ← eta_Reading y, h0, h1, h2, h3]
  · intro h
    rw [decide_eq_true_eq] at h; subst h; simp

structure Change where
  Tick : Int
  Ahead : Int
  deriving DecidableEq
instance elChange : El Change where
  sz := 2
  cells x := [enc x.Tick, enc x.Ahead]
  un cs := match cs with | [v0, v1] => (dec v0).bind fun a0 => (dec v1).bind fun a1 => some ⟨a0, a1⟩ | _ => none
  len _ := rfl
  un_le := by
    intro cs a h
    split at h
    · simp only [Option.bind_eq_some_iff, Option.some.injEq] at h
      obtain ⟨x0, h0, x1, h1, rfl⟩ := h
      exact ⟨Enc.dec_le h0, Enc.dec_le h1, trivial⟩
    · cases h
  un_cells x := by simp only [Enc.dec_enc, Option.bind_some]
  isF x := by simp only [PV.isFL, Bool.and_eq_true, and_true]; exact ⟨rfl, rfl⟩
instance encChange : Enc Change := encOfEl Change
@[simp] theorem sz_Change : El.sz Change = 2 := rfl
@[simp] theorem cells_Change (x : Change) : El.cells x = [enc x.Tick, enc x.Ahead] := rfl
@[simp] theorem enc_Change (x : Change) : enc x = PV.agg [enc x.Tick, enc x.Ahead] := rfl
@[simp] theorem dec_Change (v0 v1 : PV) : (dec (PV.agg [v0, v1]) : Option Change) = (dec v0).bind fun a0 => (dec v1).bind fun a1 => some ⟨a0, a1⟩ := rfl
@[simp] theorem eta_Change (x : Change) : (Change.mk x.Tick x.Ahead) = x := rfl
@[simp] theorem decl_Change (ex : Bool) (q : Nat) (l : List Change) (h : q = l.length) : (dec (PV.lst ex q 2 (encL l)) : Option (List Change)) = some l := by subst h; exact dec_lst ex l
theorem get_Change (l : List Change) (k : Nat) (h : k < l.length) : List.drop (k * 2) (encL l) = [enc l[k].Tick, enc l[k].Ahead] ++ encL (l.drop (k + 1)) := encL_get l k h
@[simp] theorem decf_Change (M : VM) (t : Nat) (out : List Change) (h : M[t]? = some (.vec (encL out))) : (dec (fzSl M t (out.length * 2) 0 out.length (openCap + 2) 2) : Option (List Change)) = some out := dec_fzSl M t out h (by decide)
@[simp] theorem lef_Change (M : VM) (t : Nat) (out : List Change) (h : M[t]? = some (.vec (encL out))) : (fzSl M t (out.length * 2) 0 out.length (openCap + 2) 2).le (.lst false out.length 2 (encL out)) = True := le_fzSl M t out h (by decide)
structure Town where
  Ahead : Int
  Changes : (List Change)
  deriving DecidableEq
instance elTown : El Town where
  sz := 2
  cells x := [enc x.Ahead, enc x.Changes]
  un cs := match cs with | [v0, v1] => (dec v0).bind fun a0 => (dec v1).bind fun a1 => some ⟨a0, a1⟩ | _ => none
  len _ := rfl
  un_le := by
    intro cs a h
    split at h
    · simp only [Option.bind_eq_some_iff, Option.some.injEq] at h
      obtain ⟨x0, h0, x1, h1, rfl⟩ := h
      exact ⟨Enc.dec_le h0, Enc.dec_le h1, trivial⟩
    · cases h
  un_cells x := by simp only [Enc.dec_enc, Option.bind_some]
  isF x := by simp only [PV.isFL, Bool.and_eq_true, and_true]; exact ⟨rfl, rfl⟩
instance encTown : Enc Town := encOfEl Town
@[simp] theorem sz_Town : El.sz Town = 2 := rfl
@[simp] theorem cells_Town (x : Town) : El.cells x = [enc x.Ahead, enc x.Changes] := rfl
@[simp] theorem enc_Town (x : Town) : enc x = PV.agg [enc x.Ahead, enc x.Changes] := rfl
@[simp] theorem dec_Town (v0 v1 : PV) : (dec (PV.agg [v0, v1]) : Option Town) = (dec v0).bind fun a0 => (dec v1).bind fun a1 => some ⟨a0, a1⟩ := rfl
@[simp] theorem eta_Town (x : Town) : (Town.mk x.Ahead x.Changes) = x := rfl
@[simp] theorem decl_Town (ex : Bool) (q : Nat) (l : List Town) (h : q = l.length) : (dec (PV.lst ex q 2 (encL l)) : Option (List Town)) = some l := by subst h; exact dec_lst ex l
@[simp] theorem decf_Town (M : VM) (t : Nat) (out : List Town) (h : M[t]? = some (.vec (encL out))) : (dec (fzSl M t (out.length * 2) 0 out.length (openCap + 2) 2) : Option (List Town)) = some out := dec_fzSl M t out h (by decide)
@[simp] theorem lef_Town (M : VM) (t : Nat) (out : List Town) (h : M[t]? = some (.vec (encL out))) : (fzSl M t (out.length * 2) 0 out.length (openCap + 2) 2).le (.lst false out.length 2 (encL out)) = True := le_fzSl M t out h (by decide)
structure TownC where
  C : Cal
  T : Town
  deriving DecidableEq
instance elTownC : El TownC where
  sz := 7
  cells x := [enc x.C.Hours, enc x.C.Minutes, enc x.C.Seconds, enc x.C.Days, enc x.C.Decrees, enc x.T.Ahead, enc x.T.Changes]
  un cs := match cs with | [v0, v1, v2, v3, v4, v5, v6] => (dec v0).bind fun a0 => (dec v1).bind fun a1 => (dec v2).bind fun a2 => (dec v3).bind fun a3 => (dec v4).bind fun a4 => (dec v5).bind fun a5 => (dec v6).bind fun a6 => some ⟨⟨a0, a1, a2, a3, a4⟩, ⟨a5, a6⟩⟩ | _ => none
  len _ := rfl
  un_le := by
    intro cs a h
    split at h
    · simp only [Option.bind_eq_some_iff, Option.some.injEq] at h
      obtain ⟨x0, h0, x1, h1, x2, h2, x3, h3, x4, h4, x5, h5, x6, h6, rfl⟩ := h
      exact ⟨Enc.dec_le h0, Enc.dec_le h1, Enc.dec_le h2, Enc.dec_le h3, Enc.dec_le h4, Enc.dec_le h5, Enc.dec_le h6, trivial⟩
    · cases h
  un_cells x := by simp only [Enc.dec_enc, Option.bind_some]
  isF x := by simp only [PV.isFL, Bool.and_eq_true, and_true]; exact ⟨rfl, rfl, rfl, rfl, rfl, rfl, rfl⟩
instance encTownC : Enc TownC := encOfEl TownC
@[simp] theorem sz_TownC : El.sz TownC = 7 := rfl
@[simp] theorem cells_TownC (x : TownC) : El.cells x = [enc x.C.Hours, enc x.C.Minutes, enc x.C.Seconds, enc x.C.Days, enc x.C.Decrees, enc x.T.Ahead, enc x.T.Changes] := rfl
@[simp] theorem enc_TownC (x : TownC) : enc x = PV.agg [enc x.C.Hours, enc x.C.Minutes, enc x.C.Seconds, enc x.C.Days, enc x.C.Decrees, enc x.T.Ahead, enc x.T.Changes] := rfl
@[simp] theorem dec_TownC (v0 v1 v2 v3 v4 v5 v6 : PV) : (dec (PV.agg [v0, v1, v2, v3, v4, v5, v6]) : Option TownC) = (dec v0).bind fun a0 => (dec v1).bind fun a1 => (dec v2).bind fun a2 => (dec v3).bind fun a3 => (dec v4).bind fun a4 => (dec v5).bind fun a5 => (dec v6).bind fun a6 => some ⟨⟨a0, a1, a2, a3, a4⟩, ⟨a5, a6⟩⟩ := rfl
@[simp] theorem eta_TownC (x : TownC) : (TownC.mk (Cal.mk x.C.Hours x.C.Minutes x.C.Seconds x.C.Days x.C.Decrees) (Town.mk x.T.Ahead x.T.Changes)) = x := rfl
@[simp] theorem decl_TownC (ex : Bool) (q : Nat) (l : List TownC) (h : q = l.length) : (dec (PV.lst ex q 7 (encL l)) : Option (List TownC)) = some l := by subst h; exact dec_lst ex l
@[simp] theorem decf_TownC (M : VM) (t : Nat) (out : List TownC) (h : M[t]? = some (.vec (encL out))) : (dec (fzSl M t (out.length * 7) 0 out.length (openCap + 7) 7) : Option (List TownC)) = some out := dec_fzSl M t out h (by decide)
@[simp] theorem lef_TownC (M : VM) (t : Nat) (out : List TownC) (h : M[t]? = some (.vec (encL out))) : (fzSl M t (out.length * 7) 0 out.length (openCap + 7) 7).le (.lst false out.length 7 (encL out)) = True := le_fzSl M t out h (by decide)
structure Span where
  Low : Int
  High : Int
  deriving DecidableEq
instance elSpan : El Span where
  sz := 2
  cells x := [enc x.Low, enc x.High]
  un cs := match cs with | [v0, v1] => (dec v0).bind fun a0 => (dec v1).bind fun a1 => some ⟨a0, a1⟩ | _ => none
  len _ := rfl
  un_le := by
    intro cs a h
    split at h
    · simp only [Option.bind_eq_some_iff, Option.some.injEq] at h
      obtain ⟨x0, h0, x1, h1, rfl⟩ := h
      exact ⟨Enc.dec_le h0, Enc.dec_le h1, trivial⟩
    · cases h
  un_cells x := by simp only [Enc.dec_enc, Option.bind_some]
  isF x := by simp only [PV.isFL, Bool.and_eq_true, and_true]; exact ⟨rfl, rfl⟩
instance encSpan : Enc Span := encOfEl Span
@[simp] theorem sz_Span : El.sz Span = 2 := rfl
@[simp] theorem cells_Span (x : Span) : El.cells x = [enc x.Low, enc x.High] := rfl
@[simp] theorem enc_Span (x : Span) : enc x = PV.agg [enc x.Low, enc x.High] := rfl
@[simp] theorem dec_Span (v0 v1 : PV) : (dec (PV.agg [v0, v1]) : Option Span) = (dec v0).bind fun a0 => (dec v1).bind fun a1 => some ⟨a0, a1⟩ := rfl
@[simp] theorem eta_Span (x : Span) : (Span.mk x.Low x.High) = x := rfl
@[simp] theorem decl_Span (ex : Bool) (q : Nat) (l : List Span) (h : q = l.length) : (dec (PV.lst ex q 2 (encL l)) : Option (List Span)) = some l := by subst h; exact dec_lst ex l
@[simp] theorem decf_Span (M : VM) (t : Nat) (out : List Span) (h : M[t]? = some (.vec (encL out))) : (dec (fzSl M t (out.length * 2) 0 out.length (openCap + 2) 2) : Option (List Span)) = some out := dec_fzSl M t out h (by decide)
@[simp] theorem lef_Span (M : VM) (t : Nat) (out : List Span) (h : M[t]? = some (.vec (encL out))) : (fzSl M t (out.length * 2) 0 out.length (openCap + 2) 2).le (.lst false out.length 2 (encL out)) = True := le_fzSl M t out h (by decide)
end Go.RS.DC

/- The chapter, as plain functions (1): calendars, ticks and readings. -/
namespace Go.RS.DC
open Go Go.RS
open Go.RS.Enc (enc dec)
def wi (n a b : Int) : Bool := decide (a ≤ n) && decide (n ≤ b)
theorem wi_iff (n a b : Int) : wi n a b = true ↔ a ≤ n ∧ n ≤ b := by simp [wi]
def moreR : List Decree → Int → Int
  | [], _ => 0
  | x :: r, d => (if x.Day = d then (if x.Plus then 1 else -1) else 0) + moreR r d
def lenR (c : Cal) (d : Int) : Int := c.Hours * c.Minutes * c.Seconds + moreR c.Decrees d
def begR (c : Cal) : Nat → Int
  | 0 => 0
  | d + 1 => begR c d + lenR c d
def allR (c : Cal) : Int := begR c c.Days.toNat
def climbD (n : Int) : Int → List Decree → Bool
  | _, [] => true
  | least, x :: r => wi x.Day least (n - 1) && climbD n (x.Day + 1) r
def headC (c : Cal) : Bool := wi c.Hours 1 24 && wi c.Minutes 1 60 && wi c.Seconds 2 60 && wi c.Days 1 10 && decide (c.Decrees.length ≤ 10)
def okC (c : Cal) : Bool := headC c && climbD c.Days 0 c.Decrees
theorem more_least (n : Int) : ∀ (l : List Decree) (least d : Int), climbD n least l = true → d < least → moreR l d = 0
  | [], _, _, _, _ => rfl
  | x :: r, least, d, h, hd => by
    simp only [climbD, Bool.and_eq_true, wi_iff] at h
    rw [moreR, if_neg (by omega), more_least n r (x.Day + 1) d h.2 (by omega)]; rfl
theorem more_b (n : Int) : ∀ (l : List Decree) (least d : Int), climbD n least l = true → -1 ≤ moreR l d ∧ moreR l d ≤ 1
  | [], _, _, _ => by simp [moreR]
  | x :: r, least, d, h => by
    simp only [climbD, Bool.and_eq_true, wi_iff] at h
    rw [moreR]
    by_cases hx : x.Day = d
    · rw [if_pos hx, more_least n r (x.Day + 1) d h.2 (by omega)]
      split <;> omega
    · rw [if_neg hx]
      have := more_b n r (x.Day + 1) d h.2
      omega
structure CalOk (c : Cal) : Prop where
  h1 : 1 ≤ c.Hours
  h2 : c.Hours ≤ 24
  m1 : 1 ≤ c.Minutes
  m2 : c.Minutes ≤ 60
  s1 : 2 ≤ c.Seconds
  s2 : c.Seconds ≤ 60
  d1 : 1 ≤ c.Days
  d2 : c.Days ≤ 10
  dl : c.Decrees.length ≤ 10
  cl : climbD c.Days 0 c.Decrees = true
  hm1 : 1 ≤ c.Hours * c.Minutes
  hm2 : c.Hours * c.Minutes ≤ 1440
  w1 : c.Hours * c.Minutes * c.Seconds = (c.Hours * c.Minutes - 1) * c.Seconds + c.Seconds
  w2 : 0 ≤ (c.Hours * c.Minutes - 1) * c.Seconds
  w3 : c.Hours * c.Minutes * c.Seconds ≤ 86400
  mb : ∀ d, -1 ≤ moreR c.Decrees d ∧ moreR c.Decrees d ≤ 1
  lb : ∀ d, 1 ≤ lenR c d ∧ lenR c d ≤ 86401
theorem okC_ok {c : Cal} (h : okC c = true) : CalOk c := by
  simp only [okC, headC, Bool.and_eq_true, wi_iff, decide_eq_true_eq] at h
  obtain ⟨⟨⟨⟨⟨⟨h1, h2⟩, ⟨m1, m2⟩⟩, ⟨s1, s2⟩⟩, ⟨d1, d2⟩⟩, dl⟩, cl⟩ := h
  have hm1 : 1 * 1 ≤ c.Hours * c.Minutes := Int.mul_le_mul (by omega) (by omega) (by omega) (by omega)
  have hm2 : c.Hours * c.Minutes ≤ 24 * 60 := Int.mul_le_mul (by omega) (by omega) (by omega) (by omega)
  have w2 : 0 ≤ (c.Hours * c.Minutes - 1) * c.Seconds := Int.mul_nonneg (by omega) (by omega)
  have w1 : c.Hours * c.Minutes * c.Seconds = (c.Hours * c.Minutes - 1) * c.Seconds + c.Seconds := by rw [Int.sub_mul]; omega
  have w3 : c.Hours * c.Minutes * c.Seconds ≤ 1440 * 60 := Int.mul_le_mul (by omega) (by omega) (by omega) (by omega)
  have mb : ∀ d, -1 ≤ moreR c.Decrees d ∧ moreR c.Decrees d ≤ 1 := fun d => more_b _ _ _ d cl
  refine ⟨h1, h2, m1, m2, s1, s2, d1, d2, dl, cl, by omega, by omega, w1, w2, by omega, mb, fun d => ?_⟩
  have := mb d
  unfold lenR
  omega
theorem begR_lt {c : Cal} (o : CalOk c) (d : Nat) : begR c d < begR c (d + 1) := by
  rw [begR]; have := o.lb d; omega
theorem begR_mono {c : Cal} (o : CalOk c) {d e : Nat} (h : d ≤ e) : begR c d ≤ begR c e := by
  induction e with
  | zero => obtain rfl : d = 0 := by omega
            exact Int.le_refl _
  | succ e ih =>
    by_cases hd : d = e + 1
    · subst hd; exact Int.le_refl _
    · have := ih (by omega); have := begR_lt o e; omega
theorem begR_b {c : Cal} (o : CalOk c) : ∀ d : Nat, 0 ≤ begR c d ∧ begR c d ≤ d * 86401
  | 0 => by simp [begR]
  | d + 1 => by
    rw [begR]
    have := begR_b o d
    have := o.lb d
    omega
theorem allR_b {c : Cal} (o : CalOk c) : 1 ≤ allR c ∧ allR c ≤ 864010 := by
  have h := begR_b o c.Days.toNat
  have d1 := o.d1
  have d2 := o.d2
  have h1 := begR_mono o (d := 1) (e := c.Days.toNat) (by omega)
  have h2 : begR c 1 = lenR c 0 := by simp [begR]
  have := o.lb 0
  unfold allR
  omega
/-! ### Readings -/
def dayL (c : Cal) (t : Int) : Nat → Nat → Nat
  | 0, d => d
  | n + 1, d => if t < begR c (d + 1) then d else dayL c t n (d + 1)
def dayR (c : Cal) (t : Int) : Nat := dayL c t c.Days.toNat 0
def minR (c : Cal) (left : Int) : Int := if left / c.Seconds < c.Hours * c.Minutes - 1 then left / c.Seconds else c.Hours * c.Minutes - 1
def leftR (c : Cal) (t : Int) : Int := t - begR c (dayR c t)
def readR (c : Cal) (t : Int) : Reading := ⟨dayR c t, minR c (leftR c t) / c.Minutes, minR c (leftR c t) % c.Minutes, leftR c t - minR c (leftR c t) * c.Seconds⟩
def secsR (c : Cal) (d m : Int) : Int := c.Seconds + if m = c.Hours * c.Minutes - 1 then moreR c.Decrees d else 0
def minOf (c : Cal) (r : Reading) : Int := r.Hour * c.Minutes + r.Minute
def validR (c : Cal) (r : Reading) : Bool := wi r.Day 0 (c.Days - 1) && wi r.Hour 0 (c.Hours - 1) && wi r.Minute 0 (c.Minutes - 1) && wi r.Second 0 (secsR c r.Day (minOf c r) - 1)
def tickR (c : Cal) (r : Reading) : Int := begR c r.Day.toNat + minOf c r * c.Seconds + r.Second
theorem dayL_spec {c : Cal} (o : CalOk c) (t : Int) : ∀ (n d : Nat), begR c d ≤ t → t < begR c (d + n) → d ≤ dayL c t n d ∧ dayL c t n d < d + n ∧ begR c (dayL c t n d) ≤ t ∧ t < begR c (dayL c t n d + 1)
  | 0, d, h1, h2 => by simp at h2; omega
  | n + 1, d, h1, h2 => by
    rw [dayL]
    by_cases h : t < begR c (d + 1)
    · rw [if_pos h]; exact ⟨by omega, by omega, h1, h⟩
    · rw [if_neg h]
      obtain ⟨g1, g2, g3, g4⟩ := dayL_spec o t n (d + 1) (by omega) (by rw [show d + 1 + n = d + (n + 1) by omega]; exact h2)
      exact ⟨by omega, by omega, g3, g4⟩
theorem dayR_spec {c : Cal} (o : CalOk c) {t : Int} (h0 : 0 ≤ t) (h1 : t < allR c) : dayR c t < c.Days.toNat ∧ begR c (dayR c t) ≤ t ∧ t < begR c (dayR c t + 1) := by
  obtain ⟨_, g2, g3, g4⟩ := dayL_spec o t c.Days.toNat 0 h0 (by rw [Nat.zero_add]; exact h1)
  exact ⟨by unfold dayR; omega, g3, g4⟩
theorem day_uniq {c : Cal} (o : CalOk c) {t : Int} {d e : Nat} (h1 : begR c d ≤ t) (h2 : t < begR c (d + 1)) (h3 : begR c e ≤ t) (h4 : t < begR c (e + 1)) : d = e := by
  by_cases h : d < e
  · have := begR_mono o (d := d + 1) (e := e) (by omega); omega
  · by_cases h' : e < d
    · have := begR_mono o (d := e + 1) (e := d) (by omega); omega
    · omega
/-- A minute and what is left. -/
theorem min_split {c : Cal} (o : CalOk c) {left d : Int} (h0 : 0 ≤ left) (h1 : left < lenR c d) :
    0 ≤ minR c left ∧ minR c left ≤ c.Hours * c.Minutes - 1 ∧ 0 ≤ left - minR c left * c.Seconds ∧ left - minR c left * c.Seconds ≤ secsR c d (minR c left) - 1 := by
  have s1 := o.s1
  have w1 := o.w1
  have hm1 := o.hm1
  have e1 := Int.mul_ediv_add_emod left c.Seconds
  have e2 := Int.emod_nonneg left (show c.Seconds ≠ 0 by omega)
  have e3 := Int.emod_lt_of_pos left (show 0 < c.Seconds by omega)
  have q0 : 0 ≤ left / c.Seconds := Int.ediv_nonneg h0 (by omega)
  have mb := o.mb d
  unfold lenR at h1
  unfold minR secsR
  by_cases hq : left / c.Seconds < c.Hours * c.Minutes - 1
  · rw [if_pos hq, if_neg (by omega)]
    have e4 : left / c.Seconds * c.Seconds = c.Seconds * (left / c.Seconds) := Int.mul_comm _ _
    omega
  · rw [if_neg hq, if_pos rfl]
    have e4 : (c.Hours * c.Minutes - 1) * c.Seconds ≤ left / c.Seconds * c.Seconds := Int.mul_le_mul_of_nonneg_right (by omega) (by omega)
    have e5 : left / c.Seconds * c.Seconds = c.Seconds * (left / c.Seconds) := Int.mul_comm _ _
    omega
theorem min_join {c : Cal} (o : CalOk c) {m s d : Int} (h0 : 0 ≤ m) (h1 : m ≤ c.Hours * c.Minutes - 1) (h2 : 0 ≤ s) (h3 : s ≤ secsR c d m - 1) :
    0 ≤ m * c.Seconds + s ∧ m * c.Seconds + s < lenR c d ∧ minR c (m * c.Seconds + s) = m := by
  have s1 := o.s1
  have w1 := o.w1
  have mb := o.mb d
  have m0 : 0 ≤ m * c.Seconds := Int.mul_nonneg h0 (by omega)
  unfold secsR at h3
  unfold lenR minR
  by_cases hm : m = c.Hours * c.Minutes - 1
  · rw [if_pos hm] at h3
    have e2 : c.Hours * c.Minutes - 1 ≤ (m * c.Seconds + s) / c.Seconds := by
      rw [← hm]
      exact (Int.le_ediv_iff_mul_le (by omega)).2 (by omega)
    rw [if_neg (by omega), hm]
    rw [hm] at m0
    refine ⟨by omega, by omega, rfl⟩
  · rw [if_neg hm] at h3
    have e1 : (m * c.Seconds + s) / c.Seconds = m := by
      refine ((Int.ediv_emod_unique (r := s) (show 0 < c.Seconds by omega)).2 ⟨?_, by omega, by omega⟩).1
      rw [Int.mul_comm]; omega
    have e3 : (m + 1) * c.Seconds ≤ (c.Hours * c.Minutes - 1) * c.Seconds := Int.mul_le_mul_of_nonneg_right (by omega) (by omega)
    have e4 : (m + 1) * c.Seconds = m * c.Seconds + c.Seconds := by rw [Int.add_mul]; omega
    rw [e1, if_pos (by omega)]
    refine ⟨by omega, by omega, rfl⟩
/-- Each tick's reading is one, and its tick is it. -/
theorem read_valid {c : Cal} (o : CalOk c) {t : Int} (h0 : 0 ≤ t) (h1 : t < allR c) : validR c (readR c t) = true ∧ tickR c (readR c t) = t ∧ minOf c (readR c t) = minR c (leftR c t) := by
  obtain ⟨d1, d2, d3⟩ := dayR_spec o h0 h1
  have hd := o.d1
  have m1 := o.m1
  have hl0 : 0 ≤ leftR c t := by unfold leftR; omega
  have hl1 : leftR c t < lenR c (dayR c t) := by unfold leftR; rw [begR] at d3; omega
  obtain ⟨g1, g2, g3, g4⟩ := min_split o hl0 hl1
  have e1 := Int.mul_ediv_add_emod (minR c (leftR c t)) c.Minutes
  have e2 := Int.emod_nonneg (minR c (leftR c t)) (show c.Minutes ≠ 0 by omega)
  have e3 := Int.emod_lt_of_pos (minR c (leftR c t)) (show 0 < c.Minutes by omega)
  have q0 : 0 ≤ minR c (leftR c t) / c.Minutes := Int.ediv_nonneg g1 (by omega)
  have q1 : minR c (leftR c t) / c.Minutes < c.Hours := (Int.ediv_lt_iff_lt_mul (by omega)).2 (by omega)
  have hmin : minOf c (readR c t) = minR c (leftR c t) := by
    unfold minOf readR
    simp only
    rw [Int.mul_comm]; omega
  refine ⟨?_, ?_, hmin⟩
  · simp only [validR, Bool.and_eq_true, wi_iff, hmin]
    simp only [readR]
    exact ⟨⟨⟨⟨by omega, by omega⟩, by omega, by omega⟩, by omega, by omega⟩, g3, g4⟩
  · unfold tickR
    rw [hmin]
    simp only [readR, leftR]
    have : ((dayR c t : Nat) : Int).toNat = dayR c t := by omega
    rw [this]
    omega
/-- Each reading's tick is one, and its reading is it. -/
theorem tick_read {c : Cal} (o : CalOk c) {r : Reading} (h : validR c r = true) : 0 ≤ tickR c r ∧ tickR c r < allR c ∧ readR c (tickR c r) = r := by
  simp only [validR, Bool.and_eq_true, wi_iff] at h
  obtain ⟨⟨⟨⟨d1, d2⟩, ⟨h1, h2⟩⟩, ⟨m1, m2⟩⟩, s1, s2⟩ := h
  have hM := o.m1
  have hH := o.h1
  have hmo : 0 ≤ minOf c r ∧ minOf c r ≤ c.Hours * c.Minutes - 1 := by
    have g1 : 0 ≤ r.Hour * c.Minutes := Int.mul_nonneg h1 (by omega)
    have g2 : r.Hour * c.Minutes ≤ (c.Hours - 1) * c.Minutes := Int.mul_le_mul_of_nonneg_right (by omega) (by omega)
    have g3 : (c.Hours - 1) * c.Minutes = c.Hours * c.Minutes - c.Minutes := by rw [Int.sub_mul]; omega
    unfold minOf
    omega
  obtain ⟨g1, g2, g3⟩ := min_join o hmo.1 hmo.2 s1 s2
  have hdn : ((r.Day.toNat : Nat) : Int) = r.Day := by omega
  have hb := begR_b o r.Day.toNat
  have b1 : begR c r.Day.toNat ≤ tickR c r := by unfold tickR; omega
  have b2 : tickR c r < begR c (r.Day.toNat + 1) := by rw [begR, hdn]; unfold tickR; omega
  have b3 : tickR c r < allR c := by
    have := begR_mono o (d := r.Day.toNat + 1) (e := c.Days.toNat) (by omega)
    unfold allR; omega
  obtain ⟨e1, e2, e3⟩ := dayR_spec o (t := tickR c r) (by omega) b3
  have hday : dayR c (tickR c r) = r.Day.toNat := day_uniq o e2 e3 b1 b2
  have hleft : leftR c (tickR c r) = minOf c r * c.Seconds + r.Second := by unfold leftR; rw [hday]; unfold tickR; omega
  refine ⟨by omega, b3, ?_⟩
  have hq : minOf c r / c.Minutes = r.Hour ∧ minOf c r % c.Minutes = r.Minute := by
    refine (Int.ediv_emod_unique (show 0 < c.Minutes by omega)).2 ⟨?_, by omega, by omega⟩
    unfold minOf; rw [Int.mul_comm c.Minutes]; omega
  unfold readR
  rw [hday, hleft, g3, hq.1, hq.2, hdn]
  rw [← eta_Reading r]
  congr 1
  simp only [eta_Reading]
  omega
end Go.RS.DC

/- The chapter, as plain functions (2): what is told; towns. -/
namespace Go.RS.DC
open Go Go.RS
open Go.RS.Enc (enc dec)
def zeroRd : Reading := ⟨0, 0, 0, 0⟩
def checkR (c : Cal) : Int := if okC c then 0 else 10
def TotalR (c : Cal) : Int × Int := if okC c then (allR c, 0) else (0, 10)
/-! ### Towns -/
def chgOk (all : Int) : Int → List Change → Bool
  | _, [] => true
  | last, x :: l => wi x.Tick (last + 1) (all - 1) && wi x.Ahead (-1440) 1440 && chgOk all x.Tick l
def okT (c : Cal) (t : Town) : Bool := wi t.Ahead (-1440) 1440 && decide (t.Changes.length ≤ 6) && chgOk (allR c) 0 t.Changes
def CheckTownR (c : Cal) (t : Town) : Int := if okC c then (if okT c t then 0 else 12) else 10
def aheadL : Int → List Change → Int → Int
  | n, [], _ => n
  | n, x :: l, k => aheadL (if x.Tick ≤ k then x.Ahead else n) l k
def thruR (c : Cal) (r : Reading) : Int := (r.Day * c.Hours + r.Hour) * c.Minutes + r.Minute
def ofThru (c : Cal) (n s : Int) : Reading := ⟨n / c.Minutes / c.Hours, n / c.Minutes % c.Hours, n % c.Minutes, s⟩
def movedR (c : Cal) (r : Reading) (by_ : Int) : Reading := ofThru c (thruR c r + by_) r.Second
def localR (c : Cal) (t : Town) (k : Int) : Reading := movedR c (readR c k) (aheadL t.Ahead t.Changes k)
def LocalR (c : Cal) (t : Town) (k : Int) : Reading × Int :=
  if CheckTownR c t = 0 then (if wi k 0 (allR c - 1) then (localR c t k, 0) else (zeroRd, 11)) else (zeroRd, CheckTownR c t)
def properR (c : Cal) (r : Reading) : Bool := wi r.Hour 0 (c.Hours - 1) && wi r.Minute 0 (c.Minutes - 1)
def tickF (c : Cal) (r : Reading) : Int := if validR c r then tickR c r else -1
def oneL (c : Cal) (r : Reading) (from_ by_ until_ : Int) : List Int :=
  if from_ ≤ tickF c (movedR c r (-by_)) ∧ tickF c (movedR c r (-by_)) < until_ then [tickF c (movedR c r (-by_))] else []
def ticksL (c : Cal) (r : Reading) : Int → Int → List Change → List Int
  | from_, by_, [] => oneL c r from_ by_ (allR c)
  | from_, by_, x :: l => oneL c r from_ by_ x.Tick ++ ticksL c r x.Tick x.Ahead l
def ticksR (c : Cal) (t : Town) (r : Reading) : List Int := if properR c r && wi r.Day (-2000) 2000 then ticksL c r 0 t.Ahead t.Changes else []
def TicksR (c : Cal) (t : Town) (r : Reading) : List Int × Int := if CheckTownR c t = 0 then (ticksR c t r, 0) else ([], CheckTownR c t)
/-! ### Bounds of towns -/
theorem aheadL_b : ∀ (l : List Change) (all n last k : Int), -1440 ≤ n → n ≤ 1440 → chgOk all last l = true → -1440 ≤ aheadL n l k ∧ aheadL n l k ≤ 1440
  | [], _, _, _, _, h1, h2, _ => ⟨h1, h2⟩
  | x :: l, all, n, last, k, h1, h2, h => by
    simp only [chgOk, Bool.and_eq_true, wi_iff] at h
    rw [aheadL]
    split
    · exact aheadL_b l all _ x.Tick k h.1.2.1 h.1.2.2 h.2
    · exact aheadL_b l all _ x.Tick k h1 h2 h.2
structure TownOk (c : Cal) (t : Town) : Prop where
  a1 : -1440 ≤ t.Ahead
  a2 : t.Ahead ≤ 1440
  ln : t.Changes.length ≤ 6
  ch : chgOk (allR c) 0 t.Changes = true
  ab : ∀ k, -1440 ≤ aheadL t.Ahead t.Changes k ∧ aheadL t.Ahead t.Changes k ≤ 1440
theorem okT_ok {c : Cal} {t : Town} (h : okT c t = true) : TownOk c t := by
  simp only [okT, Bool.and_eq_true, wi_iff, decide_eq_true_eq] at h
  obtain ⟨⟨⟨a1, a2⟩, ln⟩, ch⟩ := h
  exact ⟨a1, a2, ln, ch, fun k => aheadL_b _ _ _ _ _ a1 a2 ch⟩
theorem checkTown_zero {c : Cal} {t : Town} (h : CheckTownR c t = 0) : okC c = true ∧ okT c t = true := by
  unfold CheckTownR at h
  split at h
  · rename_i hc
    split at h
    · rename_i ht; exact ⟨hc, ht⟩
    · cases h
  · cases h
/-! ### Moving a reading -/
theorem thru_of {c : Cal} (o : CalOk c) (n s : Int) : thruR c (ofThru c n s) = n ∧ properR c (ofThru c n s) = true := by
  have m1 := o.m1
  have h1 := o.h1
  have e1 := Int.mul_ediv_add_emod n c.Minutes
  have e2 := Int.emod_nonneg n (show c.Minutes ≠ 0 by omega)
  have e3 := Int.emod_lt_of_pos n (show 0 < c.Minutes by omega)
  have f1 := Int.mul_ediv_add_emod (n / c.Minutes) c.Hours
  have f2 := Int.emod_nonneg (n / c.Minutes) (show c.Hours ≠ 0 by omega)
  have f3 := Int.emod_lt_of_pos (n / c.Minutes) (show 0 < c.Hours by omega)
  constructor
  · unfold thruR ofThru
    simp only
    have g : n / c.Minutes / c.Hours * c.Hours + n / c.Minutes % c.Hours = n / c.Minutes := by rw [Int.mul_comm]; exact f1
    rw [g, Int.mul_comm]; exact e1
  · simp only [properR, Bool.and_eq_true, wi_iff, ofThru]
    omega
theorem ofThru_thru {c : Cal} (o : CalOk c) {r : Reading} (h : properR c r = true) : ofThru c (thruR c r) r.Second = r := by
  simp only [properR, Bool.and_eq_true, wi_iff] at h
  obtain ⟨⟨h1, h2⟩, m1, m2⟩ := h
  have hM := o.m1
  have hH := o.h1
  have e1 : thruR c r / c.Minutes = r.Day * c.Hours + r.Hour ∧ thruR c r % c.Minutes = r.Minute := by
    refine (Int.ediv_emod_unique (show 0 < c.Minutes by omega)).2 ⟨?_, by omega, by omega⟩
    unfold thruR; rw [Int.mul_comm c.Minutes]; omega
  have e2 : (r.Day * c.Hours + r.Hour) / c.Hours = r.Day ∧ (r.Day * c.Hours + r.Hour) % c.Hours = r.Hour := by
    refine (Int.ediv_emod_unique (show 0 < c.Hours by omega)).2 ⟨?_, by omega, by omega⟩
    rw [Int.mul_comm c.Hours]; omega
  unfold ofThru
  rw [e1.1, e1.2, e2.1, e2.2]
theorem moved_back {c : Cal} (o : CalOk c) {r s : Reading} (hr : properR c r = true) (hs : properR c s = true) (n : Int) : movedR c r n = s ↔ r = movedR c s (-n) := by
  constructor
  · intro h
    have h2 : thruR c s = thruR c r + n := by rw [← h]; exact (thru_of o _ _).1
    have h3 : s.Second = r.Second := by rw [← h]; rfl
    unfold movedR
    rw [h2, h3, show thruR c r + n + -n = thruR c r by omega, ofThru_thru o hr]
  · intro h
    have h2 : thruR c r = thruR c s + -n := by rw [h]; exact (thru_of o _ _).1
    have h3 : r.Second = s.Second := by rw [h]; rfl
    unfold movedR
    rw [h2, h3, show thruR c s + -n + n = thruR c s by omega, ofThru_thru o hs]
theorem valid_proper {c : Cal} {r : Reading} (h : validR c r = true) : properR c r = true := by
  simp only [validR, properR, Bool.and_eq_true] at h ⊢
  exact ⟨h.1.1.2, h.1.2⟩
theorem read_proper {c : Cal} (o : CalOk c) {t : Int} (h0 : 0 ≤ t) (h1 : t < allR c) : properR c (readR c t) = true := valid_proper (read_valid o h0 h1).1
/-- A tick's reading, so much moved, is one just if the tick is that of the reading moved back. -/
theorem moved_tick {c : Cal} (o : CalOk c) {r : Reading} (hr : properR c r = true) {k : Int} (h0 : 0 ≤ k) (h1 : k < allR c) (n : Int) : movedR c (readR c k) n = r ↔ tickF c (movedR c r (-n)) = k := by
  rw [moved_back o (read_proper o h0 h1) hr]
  constructor
  · intro h
    have hv := read_valid o h0 h1
    unfold tickF
    rw [← h, if_pos hv.1, hv.2.1]
  · intro h
    unfold tickF at h
    split at h
    · rename_i hv
      rw [← h]; exact (tick_read o hv).2.2
    · omega
/-! ### All ticks of a local reading -/
theorem mem_oneL {c : Cal} (o : CalOk c) {r : Reading} (hr : properR c r = true) {from_ by_ until_ k : Int} (h0 : 0 ≤ from_) (h1 : until_ ≤ allR c) : k ∈ oneL c r from_ by_ until_ ↔ from_ ≤ k ∧ k < until_ ∧ movedR c (readR c k) by_ = r := by
  unfold oneL
  constructor
  · intro h
    split at h
    · rename_i hc
      simp only [List.mem_singleton] at h
      subst h
      exact ⟨hc.1, hc.2, (moved_tick o hr (by omega) (by omega) by_).2 rfl⟩
    · cases h
  · rintro ⟨g1, g2, g3⟩
    have := (moved_tick o hr (k := k) (by omega) (by omega) by_).1 g3
    rw [this, if_pos ⟨g1, g2⟩]; simp
theorem aheadL_before : ∀ (l : List Change) (all n last k : Int), chgOk all last l = true → k ≤ last → aheadL n l k = n
  | [], _, _, _, _, _, _ => rfl
  | x :: l, all, n, last, k, h, hk => by
    simp only [chgOk, Bool.and_eq_true, wi_iff] at h
    rw [aheadL, if_neg (by omega)]
    exact aheadL_before l all n x.Tick k h.2 (by omega)
theorem mem_ticksL {c : Cal} (o : CalOk c) {r : Reading} (hr : properR c r = true) : ∀ (l : List Change) (from_ by_ k : Int), 0 ≤ from_ → from_ ≤ allR c → chgOk (allR c) from_ l = true →
    (k ∈ ticksL c r from_ by_ l ↔ from_ ≤ k ∧ k < allR c ∧ movedR c (readR c k) (aheadL by_ l k) = r)
  | [], from_, by_, k, h0, h1, _ => by rw [ticksL, aheadL]; exact mem_oneL o hr h0 (Int.le_refl _)
  | x :: l, from_, by_, k, h0, h1, h => by
    have hch := h
    simp only [chgOk, Bool.and_eq_true, wi_iff] at h
    rw [ticksL, List.mem_append, mem_oneL o hr h0 (by omega), mem_ticksL o hr l x.Tick x.Ahead k (by omega) (by omega) h.2, aheadL]
    by_cases hk : x.Tick ≤ k
    · rw [if_pos hk]
      constructor
      · rintro (g | ⟨g1, g2, g3⟩)
        · omega
        · exact ⟨by omega, g2, g3⟩
      · rintro ⟨g1, g2, g3⟩; exact .inr ⟨hk, g2, g3⟩
    · rw [if_neg hk, aheadL_before l _ by_ x.Tick k h.2 (by omega)]
      constructor
      · rintro (⟨g1, g2, g3⟩ | g)
        · exact ⟨g1, by omega, g3⟩
        · omega
      · rintro ⟨g1, g2, g3⟩; exact .inl ⟨g1, by omega, g3⟩
theorem ticksL_sorted {c : Cal} (o : CalOk c) {r : Reading} (hr : properR c r = true) : ∀ (l : List Change) (from_ by_ : Int), 0 ≤ from_ → from_ ≤ allR c → chgOk (allR c) from_ l = true → (ticksL c r from_ by_ l).Pairwise (· < ·)
  | [], from_, by_, _, _, _ => by
    rw [ticksL]; unfold oneL; split <;> simp
  | x :: l, from_, by_, h0, h1, h => by
    simp only [chgOk, Bool.and_eq_true, wi_iff] at h
    rw [ticksL, List.pairwise_append]
    refine ⟨by unfold oneL; split <;> simp, ticksL_sorted o hr l x.Tick x.Ahead (by omega) (by omega) h.2, fun a ha b hb => ?_⟩
    rw [mem_oneL o hr h0 (by omega)] at ha
    rw [mem_ticksL o hr l x.Tick x.Ahead b (by omega) (by omega) h.2] at hb
    omega
/-- Sorted lists with the same elements are the same. -/
theorem sorted_ext : ∀ {a b : List Int}, a.Pairwise (· < ·) → b.Pairwise (· < ·) → (∀ x, x ∈ a ↔ x ∈ b) → a = b
  | [], [], _, _, _ => rfl
  | [], y :: b, _, _, h => by have := (h y).2 (by simp); cases this
  | x :: a, [], _, _, h => by have := (h x).1 (by simp); cases this
  | x :: a, y :: b, ha, hb, h => by
    obtain ⟨ha1, ha2⟩ := List.pairwise_cons.1 ha
    obtain ⟨hb1, hb2⟩ := List.pairwise_cons.1 hb
    have hxy : x = y := by
      have h1 := (h x).1 (by simp)
      have h2 := (h y).2 (by simp)
      rcases List.mem_cons.1 h1 with h1 | h1
      · exact h1
      · rcases List.mem_cons.1 h2 with h2 | h2
        · exact h2.symm
        · have := hb1 x h1; have := ha1 y h2; omega
    subst hxy
    rw [sorted_ext ha2 hb2 fun z => ?_]
    constructor
    · intro hz
      rcases List.mem_cons.1 ((h z).1 (by simp [hz])) with e | e
      · have := ha1 z hz; omega
      · exact e
    · intro hz
      rcases List.mem_cons.1 ((h z).2 (by simp [hz])) with e | e
      · have := hb1 z hz; omega
      · exact e
theorem thru_b {c : Cal} (o : CalOk c) {k : Int} (h0 : 0 ≤ k) (h1 : k < allR c) : 0 ≤ thruR c (readR c k) ∧ thruR c (readR c k) < 14400 := by
  have hv := (read_valid o h0 h1).1
  simp only [validR, Bool.and_eq_true, wi_iff] at hv
  obtain ⟨⟨⟨⟨d1, d2⟩, ⟨h3, h4⟩⟩, ⟨m1, m2⟩⟩, s1, s2⟩ := hv
  generalize readR c k = r at *
  have dd := o.d2
  have hh := o.h2
  have hm := o.m2
  have hH := o.h1
  have hM := o.m1
  have g1 : 0 ≤ r.Day * c.Hours := Int.mul_nonneg d1 (by omega)
  have g2 : r.Day * c.Hours ≤ 9 * c.Hours := Int.mul_le_mul_of_nonneg_right (by omega) (by omega)
  have g3 : 0 ≤ (r.Day * c.Hours + r.Hour) * c.Minutes := Int.mul_nonneg (by omega) (by omega)
  have g4 : (r.Day * c.Hours + r.Hour) * c.Minutes ≤ 239 * 60 := Int.mul_le_mul (by omega) (by omega) (by omega) (by omega)
  unfold thruR
  omega
theorem local_day {c : Cal} (o : CalOk c) {t : Town} (ot : TownOk c t) {k : Int} (h0 : 0 ≤ k) (h1 : k < allR c) : properR c (localR c t k) = true ∧ -2000 ≤ (localR c t k).Day ∧ (localR c t k).Day ≤ 2000 := by
  have ab := ot.ab k
  have tb := thru_b o h0 h1
  have hb := (read_valid o h0 h1).1
  refine ⟨(thru_of o _ _).2, ?_⟩
  have hd : (readR c k).Day ≤ 9 ∧ 0 ≤ (readR c k).Day := by
    simp only [validR, Bool.and_eq_true, wi_iff] at hb
    have := o.d2
    omega
  have hm1 := o.hm1
  have hH := o.h1
  have hM := o.m1
  -- the day is the quotient by the minutes of a day
  have e : (localR c t k).Day = (thruR c (readR c k) + aheadL t.Ahead t.Changes k) / (c.Minutes * c.Hours) := by
    unfold localR movedR ofThru
    simp only
    rw [Int.ediv_ediv_of_nonneg (by omega)]
  rw [e]
  have hmh : c.Minutes * c.Hours = c.Hours * c.Minutes := Int.mul_comm _ _
  rw [hmh]
  have hthru : thruR c (readR c k) ≤ 9 * (c.Hours * c.Minutes) + (c.Hours * c.Minutes - 1) := by
    have hv := (read_valid o h0 h1).1
    simp only [validR, Bool.and_eq_true, wi_iff] at hv
    obtain ⟨⟨⟨⟨d1, d2⟩, ⟨h3, h4⟩⟩, ⟨m1, m2⟩⟩, s1, s2⟩ := hv
    generalize readR c k = r at *
    have g2 : r.Day * c.Hours + r.Hour ≤ 9 * c.Hours + (c.Hours - 1) := by
      have := Int.mul_le_mul_of_nonneg_right (show r.Day ≤ 9 by omega) (show 0 ≤ c.Hours by omega)
      omega
    have g3 : (r.Day * c.Hours + r.Hour) * c.Minutes ≤ (9 * c.Hours + (c.Hours - 1)) * c.Minutes := Int.mul_le_mul_of_nonneg_right g2 (by omega)
    have g4 : (9 * c.Hours + (c.Hours - 1)) * c.Minutes = 9 * (c.Hours * c.Minutes) + (c.Hours * c.Minutes - c.Minutes) := by
      rw [Int.add_mul, Int.sub_mul, Int.mul_assoc]; omega
    unfold thruR
    omega
  constructor
  · refine (Int.le_ediv_iff_mul_le (by omega)).2 ?_
    have : -2000 * (c.Hours * c.Minutes) ≤ -2000 * 1 := by omega
    omega
  · have : (thruR c (readR c k) + aheadL t.Ahead t.Changes k) / (c.Hours * c.Minutes) < 2001 := (Int.ediv_lt_iff_lt_mul (by omega)).2 (by omega)
    omega
/-- Just the ticks with a local reading. -/
theorem mem_ticksR {c : Cal} (o : CalOk c) {t : Town} (ot : TownOk c t) (r : Reading) (k : Int) : k ∈ ticksR c t r ↔ 0 ≤ k ∧ k < allR c ∧ localR c t k = r := by
  unfold ticksR
  have ha := allR_b o
  constructor
  · intro h
    split at h
    · rename_i hp
      simp only [Bool.and_eq_true] at hp
      exact (mem_ticksL o hp.1 _ _ _ _ (Int.le_refl 0) (by omega) ot.ch).1 h
    · cases h
  · rintro ⟨h0, h1, h2⟩
    obtain ⟨g1, g2, g3⟩ := local_day o ot h0 h1
    rw [h2] at g1 g2 g3
    rw [if_pos (by rw [g1, (wi_iff _ _ _).2 ⟨g2, g3⟩]; rfl)]
    exact (mem_ticksL o g1 _ _ _ _ (Int.le_refl 0) (by omega) ot.ch).2 ⟨h0, h1, h2⟩
theorem ticksR_sorted {c : Cal} (o : CalOk c) {t : Town} (ot : TownOk c t) (r : Reading) : (ticksR c t r).Pairwise (· < ·) := by
  unfold ticksR
  have ha := allR_b o
  split
  · rename_i hp
    simp only [Bool.and_eq_true] at hp
    exact ticksL_sorted o hp.1 _ _ _ (Int.le_refl 0) (by omega) ot.ch
  · exact .nil
end Go.RS.DC

/- The chapter, as plain functions (3): the order of readings; what comes twice; the next announcement. -/
namespace Go.RS.DC
open Go Go.RS
open Go.RS.Enc (enc dec)
/-! ### What comes twice -/
/-! ### The order of readings -/
/-! ### The next tick whose second can be divided -/
end Go.RS.DC

/- The chapter, as plain functions (4): days and decrees. -/
namespace Go.RS.DC
open Go Go.RS
open Go.RS.Enc (enc dec)
/-! ### Without its last decree -/
def cut (c : Cal) (l : List Decree) : Cal := ⟨c.Hours, c.Minutes, c.Seconds, c.Days, l⟩
structure CutOk (c : Cal) (l : List Decree) (x : Decree) (by_ : Int) : Prop where
  ok : okC (cut c l) = true
  d0 : 0 ≤ x.Day
  d1 : x.Day < c.Days
  len : ∀ d : Int, lenR c d = lenR (cut c l) d + if x.Day = d then by_ else 0
  lenx : lenR (cut c l) x.Day = c.Hours * c.Minutes * c.Seconds
  beg : ∀ e : Nat, begR c e = begR (cut c l) e + if x.Day < e then by_ else 0
end Go.RS.DC

/- The chapter, as plain functions (5): later readings; the announcement. -/
namespace Go.RS.DC
open Go Go.RS
open Go.RS.Enc (enc dec)
/-- What is told lies near. -/
structure NextOk (c : Cal) (each t : Int) (r : Int × Int) : Prop where
  ok : (r.2 = 0 ∧ t ≤ r.1 ∧ r.1 < allR c ∧ r.1 ≤ t + c.Seconds + 1 ∧ (readR c r.1).Second % each = 0 ∧ ∀ j, t ≤ j → j < r.1 → (readR c j).Second % each ≠ 0) ∨
    (r = (0, 4) ∧ allR c ≤ t + c.Seconds + 1 ∧ ∀ j, t ≤ j → j < allR c → (readR c j).Second % each ≠ 0)
end Go.RS.DC

/- The chapter, as plain functions (6): all ticks of a local reading, one after the other. -/
namespace Go.RS.DC
open Go Go.RS
open Go.RS.Enc (enc dec)
def okTick (c : Cal) (t : Town) (r : Reading) (out : List Int) (n : Int) : Bool :=
  validR c (movedR c r (-n)) && decide (localR c t (tickR c (movedR c r (-n))) = r) && !(out.contains (tickR c (movedR c r (-n))))
def collL (c : Cal) (t : Town) (r : Reading) : List Int → List Int → List Int
  | out, [] => out
  | out, n :: l => collL c t r (if okTick c t r out n then out ++ [tickR c (movedR c r (-n))] else out) l
def aheadsOf (t : Town) : List Int := t.Ahead :: t.Changes.map (·.Ahead)
theorem mem_collL {c : Cal} {t : Town} {r : Reading} {k : Int} : ∀ (l out : List Int), k ∈ collL c t r out l ↔ k ∈ out ∨ ∃ n ∈ l, validR c (movedR c r (-n)) = true ∧ tickR c (movedR c r (-n)) = k ∧ localR c t k = r
  | [], out => by simp [collL]
  | n :: l, out => by
    rw [collL, mem_collL l]
    by_cases h : okTick c t r out n = true
    · rw [if_pos h]
      simp only [okTick, Bool.and_eq_true, decide_eq_true_eq, Bool.not_eq_true', List.mem_append, List.mem_singleton] at h ⊢
      constructor
      · rintro ((h1 | rfl) | ⟨m, hm, h1⟩)
        · exact .inl h1
        · exact .inr ⟨n, by simp, h.1.1, rfl, h.1.2⟩
        · exact .inr ⟨m, by simp [hm], h1⟩
      · rintro (h1 | ⟨m, hm, h1, h2, h3⟩)
        · exact .inl (.inl h1)
        · rcases List.mem_cons.1 hm with rfl | hm
          · exact .inl (.inr h2.symm)
          · exact .inr ⟨m, hm, h1, h2, h3⟩
    · rw [if_neg h]
      constructor
      · rintro (h1 | ⟨m, hm, h1⟩)
        · exact .inl h1
        · exact .inr ⟨m, by simp [hm], h1⟩
      · rintro (h1 | ⟨m, hm, h1, h2, h3⟩)
        · exact .inl h1
        · rcases List.mem_cons.1 hm with rfl | hm
          · simp only [okTick, Bool.and_eq_true, decide_eq_true_eq, Bool.not_eq_true', h1, true_and, h2, h3] at h
            left
            have : out.contains k = true := by cases hx : out.contains k <;> simp_all
            simpa using this
          · exact .inr ⟨m, hm, h1, h2, h3⟩
theorem collL_nodup {c : Cal} {t : Town} {r : Reading} : ∀ (l out : List Int), out.Nodup → (collL c t r out l).Nodup
  | [], out, h => h
  | n :: l, out, h => by
    rw [collL]
    refine collL_nodup l _ ?_
    split
    · rename_i ho
      simp only [okTick, Bool.and_eq_true, Bool.not_eq_true'] at ho
      have : tickR c (movedR c r (-n)) ∉ out := by simpa using ho.2
      rw [List.nodup_append]
      exact ⟨h, by simp, fun a ha b hb => by rw [List.mem_singleton] at hb; subst hb; exact fun e => this (e ▸ ha)⟩
    · exact h
theorem aheadL_mem : ∀ (l : List Change) (n k : Int), aheadL n l k = n ∨ aheadL n l k ∈ l.map (·.Ahead)
  | [], _, _ => .inl rfl
  | x :: l, n, k => by
    rw [aheadL]
    rcases aheadL_mem l (if x.Tick ≤ k then x.Ahead else n) k with h | h
    · split at h
      · right; split
        · rw [h]; simp
        · contradiction
      · rename_i hx; rw [if_neg hx]; exact .inl h
    · right; simp only [List.map_cons, List.mem_cons]; exact .inr h
theorem mem_coll {c : Cal} (o : CalOk c) {t : Town} (ot : TownOk c t) {r : Reading} (hr : properR c r = true) (k : Int) : k ∈ collL c t r [] (aheadsOf t) ↔ k ∈ ticksR c t r := by
  rw [mem_collL, mem_ticksR o ot r k]
  constructor
  · rintro (h | ⟨n, _, h1, h2, h3⟩)
    · cases h
    · have := tick_read o h1
      rw [h2] at this
      exact ⟨this.1, by omega, h3⟩
  · rintro ⟨h0, h1, h2⟩
    right
    refine ⟨aheadL t.Ahead t.Changes k, ?_, ?_⟩
    · unfold aheadsOf
      rcases aheadL_mem t.Changes t.Ahead k with h | h
      · rw [h]; simp
      · exact List.mem_cons_of_mem _ h
    · have h3 := (moved_back o (read_proper o h0 h1) hr (aheadL t.Ahead t.Changes k)).1 h2
      have hv := read_valid o h0 h1
      rw [← h3]
      exact ⟨hv.1, hv.2.1, h2⟩
/-- What is sorted of it. -/
theorem coll_sorted {c : Cal} (o : CalOk c) {t : Town} (ot : TownOk c t) {r : Reading} (hr : properR c r = true) {l : List Int} (hp : l.Perm (collL c t r [] (aheadsOf t))) (hs : l.Pairwise (· ≤ ·)) : l = ticksR c t r := by
  have hn : l.Nodup := hp.symm.nodup (collL_nodup _ _ .nil)
  refine sorted_ext ?_ (ticksR_sorted o ot r) fun k => by rw [hp.mem_iff, mem_coll o ot hr]
  have := List.Pairwise.and hs hn
  exact this.imp fun h => by omega
theorem collL_len {c : Cal} {t : Town} {r : Reading} : ∀ (l out : List Int), (collL c t r out l).length ≤ out.length + l.length
  | [], out => by simp [collL]
  | n :: l, out => by
    rw [collL]
    split
    · have := collL_len (c := c) (t := t) (r := r) l (out ++ [tickR c (movedR c r (-n))])
      simp at this ⊢; omega
    · have := collL_len (c := c) (t := t) (r := r) l out
      simp at this ⊢; omega
end Go.RS.DC

