/- Kinds of data of the chapter court. -/
import Derived.Test.YtmlogniaahnamaaDoorDpa
import Derived.Test.YtmlogniaahnamaaDoorVpa
import Derived.Test.YtmlogniaahnamaaDoorPvc
set_option linter.all false
namespace Go.RS.DC
open Go Go.RS
open Go.RS.Enc (enc dec)
structure Entry where
  When : Span
  Late : Span
  Reading : Reading
  deriving DecidableEq
instance elEntry : El Entry where
  sz := 8
  cells x := [enc x.When.Low, enc x.When.High, enc x.Late.Low, enc x.Late.High, enc x.Reading.Day, enc x.Reading.Hour, enc x.Reading.Minute, enc x.Reading.Second]
  un cs := match cs with | [v0, v1, v2, v3, v4, v5, v6, v7] => (dec v0).bind fun a0 => (dec v1).bind fun a1 => (dec v2).bind fun a2 => (dec v3).bind fun a3 => (dec v4).bind fun a4 => (dec v5).bind fun a5 => (dec v6).bind fun a6 => (dec v7).bind fun a7 => some ⟨⟨a0, a1⟩, ⟨a2, a3⟩, ⟨a4, a5, a6, a7⟩⟩ | _ => none
  len _ := rfl
  un_le := by
    intro cs a h
    split at h
    · simp only [Option.bind_eq_some_iff, Option.some.injEq] at h
      obtain ⟨x0, h0, x1, h1, x2, h2, x3, h3, x4, h4, x5, h5, x6, h6, x7, h7, rfl⟩ := h
      exact ⟨Enc.dec_le h0, Enc.dec_le h1, Enc.dec_le h2, Enc.dec_le h3, Enc.dec_le h4, Enc.dec_le h5, Enc.dec_le h6, Enc.dec_le h7, trivial⟩
    · cases h
  un_cells x := by simp only [Enc.dec_enc, Option.bind_some]
  isF x := by simp only [PV.isFL, Bool.and_eq_true, and_true]; exact ⟨rfl, rfl, rfl, rfl, rfl, rfl, rfl, rfl⟩
instance encEntry : Enc Entry := encOfEl Entry
@[simp] theorem sz_Entry : El.sz Entry = 8 := rfl
@[simp] theorem cells_Entry (x : Entry) : El.cells x = [enc x.When.Low, enc x.When.High, enc x.Late.Low, enc x.Late.High, enc x.Reading.Day, enc x.Reading.Hour, enc x.Reading.Minute, enc x.Reading.Second] := rfl
@[simp] theorem enc_Entry (x : Entry) : enc x = PV.agg [enc x.When.Low, enc x.When.High, enc x.Late.Low, enc x.Late.High, enc x.Reading.Day, enc x.Reading.Hour, enc x.Reading.Minute, enc x.Reading.Second] := rfl
@[simp] theorem dec_Entry (v0 v1 v2 v3 v4 v5 v6 v7 : PV) : (dec (PV.agg [v0, v1, v2, v3, v4, v5, v6, v7]) : Option Entry) = (dec v0).bind fun a0 => (dec v1).bind fun a1 => (dec v2).bind fun a2 => (dec v3).bind fun a3 => (dec v4).bind fun a4 => (dec v5).bind fun a5 => (dec v6).bind fun a6 => (dec v7).bind fun a7 => some ⟨⟨a0, a1⟩, ⟨a2, a3⟩, ⟨a4, a5, a6, a7⟩⟩ := rfl
@[simp] theorem eta_Entry (x : Entry) : (Entry.mk (Span.mk x.When.Low x.When.High) (Span.mk x.Late.Low x.Late.High) (Reading.mk x.Reading.Day x.Reading.Hour x.Reading.Minute x.Reading.Second)) = x := rfl
@[simp] theorem decl_Entry (ex : Bool) (q : Nat) (l : List Entry) (h : q = l.length) : (dec (PV.lst ex q 8 (encL l)) : Option (List Entry)) = some l := by subst h; exact dec_lst ex l
theorem get_Entry (l : List Entry) (k : Nat) (h : k < l.length) : List.drop (k * 8) (encL l) = [enc l[k].When.Low, enc l[k].When.High, enc l[k].Late.Low, enc l[k].Late.High, enc l[k].Reading.Day, enc l[k].Reading.Hour, enc l[k].Reading.Minute, enc l[k].Reading.Second] ++ encL (l.drop (k + 1)) := encL_get l k h
theorem take_Entry (l : List Entry) (k : Nat) : List.take (k * 8) (encL l) = encL (l.take k) := encL_take l k
theorem drop_Entry (l : List Entry) (k : Nat) : List.drop (k * 8) (encL l) = encL (l.drop k) := encL_drop l k
@[simp] theorem decf_Entry (M : VM) (t : Nat) (out : List Entry) (h : M[t]? = some (.vec (encL out))) : (dec (fzSl M t (out.length * 8) 0 out.length (openCap + 8) 8) : Option (List Entry)) = some out := dec_fzSl M t out h (by decide)
@[simp] theorem lef_Entry (M : VM) (t : Nat) (out : List Entry) (h : M[t]? = some (.vec (encL out))) : (fzSl M t (out.length * 8) 0 out.length (openCap + 8) 8).le (.lst false out.length 8 (encL out)) = True := le_fzSl M t out h (by decide)
structure Case where
  Calendar : Cal
  Town : Town
  Each : Int
  Step : Int
  First : Span
  Log : (List Entry)
  deriving DecidableEq
instance elCase : El Case where
  sz := 12
  cells x := [enc x.Calendar.Hours, enc x.Calendar.Minutes, enc x.Calendar.Seconds, enc x.Calendar.Days, enc x.Calendar.Decrees, enc x.Town.Ahead, enc x.Town.Changes, enc x.Each, enc x.Step, enc x.First.Low, enc x.First.High, enc x.Log]
  un cs := match cs with | [v0, v1, v2, v3, v4, v5, v6, v7, v8, v9, v10, v11] => (dec v0).bind fun a0 => (dec v1).bind fun a1 => (dec v2).bind fun a2 => (dec v3).bind fun a3 => (dec v4).bind fun a4 => (dec v5).bind fun a5 => (dec v6).bind fun a6 => (dec v7).bind fun a7 => (dec v8).bind fun a8 => (dec v9).bind fun a9 => (dec v10).bind fun a10 => (dec v11).bind fun a11 => some ⟨⟨a0, a1, a2, a3, a4⟩, ⟨a5, a6⟩, a7, a8, ⟨a9, a10⟩, a11⟩ | _ => none
  len _ := rfl
  un_le := by
    intro cs a h
    split at h
    · simp only [Option.bind_eq_some_iff, Option.some.injEq] at h
      obtain ⟨x0, h0, x1, h1, x2, h2, x3, h3, x4, h4, x5, h5, x6, h6, x7, h7, x8, h8, x9, h9, x10, h10, x11, h11, rfl⟩ := h
      exact ⟨Enc.dec_le h0, Enc.dec_le h1, Enc.dec_le h2, Enc.dec_le h3, Enc.dec_le h4, Enc.dec_le h5, Enc.dec_le h6, Enc.dec_le h7, Enc.dec_le h8, Enc.dec_le h9, Enc.dec_le h10, Enc.dec_le h11, trivial⟩
    · cases h
  un_cells x := by simp only [Enc.dec_enc, Option.bind_some]
  isF x := by simp only [PV.isFL, Bool.and_eq_true, and_true]; exact ⟨rfl, rfl, rfl, rfl, rfl, rfl, rfl, rfl, rfl, rfl, rfl, rfl⟩
instance encCase : Enc Case := encOfEl Case
@[simp] theorem sz_Case : El.sz Case = 12 := rfl
@[simp] theorem cells_Case (x : Case) : El.cells x = [enc x.Calendar.Hours, enc x.Calendar.Minutes, enc x.Calendar.Seconds, enc x.Calendar.Days, enc x.Calendar.Decrees, enc x.Town.Ahead, enc x.Town.Changes, enc x.Each, enc x.Step, enc x.First.Low, enc x.First.High, enc x.Log] := rfl
@[simp] theorem enc_Case (x : Case) : enc x = PV.agg [enc x.Calendar.Hours, enc x.Calendar.Minutes, enc x.Calendar.Seconds, enc x.Calendar.Days, enc x.Calendar.Decrees, enc x.Town.Ahead, enc x.Town.Changes, enc x.Each, enc x.Step, enc x.First.Low, enc x.First.High, enc x.Log] := rfl
@[simp] theorem dec_Case (v0 v1 v2 v3 v4 v5 v6 v7 v8 v9 v10 v11 : PV) : (dec (PV.agg [v0, v1, v2, v3, v4, v5, v6, v7, v8, v9, v10, v11]) : Option Case) = (dec v0).bind fun a0 => (dec v1).bind fun a1 => (dec v2).bind fun a2 => (dec v3).bind fun a3 => (dec v4).bind fun a4 => (dec v5).bind fun a5 => (dec v6).bind fun a6 => (dec v7).bind fun a7 => (dec v8).bind fun a8 => (dec v9).bind fun a9 => (dec v10).bind fun a10 => (dec v11).bind fun a11 => some ⟨⟨a0, a1, a2, a3, a4⟩, ⟨a5, a6⟩, a7, a8, ⟨a9, a10⟩, a11⟩ := rfl
@[simp] theorem eta_Case (x : Case) : (Case.mk (Cal.mk x.Calendar.Hours x.Calendar.Minutes x.Calendar.Seconds x.Calendar.Days x.Calendar.Decrees) (Town.mk x.Town.Ahead x.Town.Changes) x.Each x.Step (Span.mk x.First.Low x.First.High) x.Log) = x := rfl
@[simp] theorem decl_Case (ex : Bool) (q : Nat) (l : List Case) (h : q = l.length) : (dec (PV.lst ex q 12 (encL l)) : Option (List Case)) = some l := by subst h; exact dec_lst ex l
@[simp] theorem decf_Case (M : VM) (t : Nat) (out : List Case) (h : M[t]? = some (.vec (encL out))) : (dec (fzSl M t (out.length * 12) 0 out.length (openCap + 12) 12) : Option (List Case)) = some out := dec_fzSl M t out h (by decide)
@[simp] theorem lef_Case (M : VM) (t : Nat) (out : List Case) (h : M[t]? = some (.vec (encL out))) : (fzSl M t (out.length * 12) 0 out.length (openCap + 12) 12).le (.lst false out.length 12 (encL out)) = True := le_fzSl M t out h (by decide)
structure Claim where
  Kind : Int
  When : Span
  Reading : Reading
  Ticks : Int
  deriving DecidableEq
instance elClaim : El Claim where
  sz := 8
  cells x := [enc x.Kind, enc x.When.Low, enc x.When.High, enc x.Reading.Day, enc x.Reading.Hour, enc x.Reading.Minute, enc x.Reading.Second, enc x.Ticks]
  un cs := match cs with | [v0, v1, v2, v3, v4, v5, v6, v7] => (dec v0).bind fun a0 => (dec v1).bind fun a1 => (dec v2).bind fun a2 => (dec v3).bind fun a3 => (dec v4).bind fun a4 => (dec v5).bind fun a5 => (dec v6).bind fun a6 => (dec v7).bind fun a7 => some ⟨a0, ⟨a1, a2⟩, ⟨a3, a4, a5, a6⟩, a7⟩ | _ => none
  len _ := rfl
  un_le := by
    intro cs a h
    split at h
    · simp only [Option.bind_eq_some_iff, Option.some.injEq] at h
      obtain ⟨x0, h0, x1, h1, x2, h2, x3, h3, x4, h4, x5, h5, x6, h6, x7, h7, rfl⟩ := h
      exact ⟨Enc.dec_le h0, Enc.dec_le h1, Enc.dec_le h2, Enc.dec_le h3, Enc.dec_le h4, Enc.dec_le h5, Enc.dec_le h6, Enc.dec_le h7, trivial⟩
    · cases h
  un_cells x := by simp only [Enc.dec_enc, Option.bind_some]
  isF x := by simp only [PV.isFL, Bool.and_eq_true, and_true]; exact ⟨rfl, rfl, rfl, rfl, rfl, rfl, rfl, rfl⟩
instance encClaim : Enc Claim := encOfEl Claim
@[simp] theorem sz_Claim : El.sz Claim = 8 := rfl
@[simp] theorem cells_Claim (x : Claim) : El.cells x = [enc x.Kind, enc x.When.Low, enc x.When.High, enc x.Reading.Day, enc x.Reading.Hour, enc x.Reading.Minute, enc x.Reading.Second, enc x.Ticks] := rfl
@[simp] theorem enc_Claim (x : Claim) : enc x = PV.agg [enc x.Kind, enc x.When.Low, enc x.When.High, enc x.Reading.Day, enc x.Reading.Hour, enc x.Reading.Minute, enc x.Reading.Second, enc x.Ticks] := rfl
@[simp] theorem dec_Claim (v0 v1 v2 v3 v4 v5 v6 v7 : PV) : (dec (PV.agg [v0, v1, v2, v3, v4, v5, v6, v7]) : Option Claim) = (dec v0).bind fun a0 => (dec v1).bind fun a1 => (dec v2).bind fun a2 => (dec v3).bind fun a3 => (dec v4).bind fun a4 => (dec v5).bind fun a5 => (dec v6).bind fun a6 => (dec v7).bind fun a7 => some ⟨a0, ⟨a1, a2⟩, ⟨a3, a4, a5, a6⟩, a7⟩ := rfl
@[simp] theorem eta_Claim (x : Claim) : (Claim.mk x.Kind (Span.mk x.When.Low x.When.High) (Reading.mk x.Reading.Day x.Reading.Hour x.Reading.Minute x.Reading.Second) x.Ticks) = x := rfl
@[simp] theorem decl_Claim (ex : Bool) (q : Nat) (l : List Claim) (h : q = l.length) : (dec (PV.lst ex q 8 (encL l)) : Option (List Claim)) = some l := by subst h; exact dec_lst ex l
@[simp] theorem decf_Claim (M : VM) (t : Nat) (out : List Claim) (h : M[t]? = some (.vec (encL out))) : (dec (fzSl M t (out.length * 8) 0 out.length (openCap + 8) 8) : Option (List Claim)) = some out := dec_fzSl M t out h (by decide)
@[simp] theorem lef_Claim (M : VM) (t : Nat) (out : List Claim) (h : M[t]? = some (.vec (encL out))) : (fzSl M t (out.length * 8) 0 out.length (openCap + 8) 8).le (.lst false out.length 8 (encL out)) = True := le_fzSl M t out h (by decide)
/-- What is handed on and never looked at. -/
inductive Opq where | mk
  deriving DecidableEq
instance elOpq : El Opq where
  sz := 1
  cells _ := [.undef]
  un cs := match cs with | [_] => some .mk | _ => none
  len _ := rfl
  un_le := by intro cs a h; split at h <;> first | cases h; done | (cases h; exact ⟨by simp [PV.le], trivial⟩)
  un_cells a := by cases a; rfl
  isF _ := rfl
instance encOpq : Enc Opq where
  enc _ := .undef
  dec _ := some .mk
  dec_le := by intro v a h; simp [PV.le]
  dec_enc a := by cases a; rfl
@[simp] theorem enc_Opq (x : Opq) : enc x = PV.undef := rfl
@[simp] theorem dec_Opq (v : PV) : (dec v : Option Opq) = some .mk := rfl

structure Tri where
  C : Case
  total : Int
  says : Opq
  deriving DecidableEq
instance elTri : El Tri where
  sz := 14
  cells x := [enc x.C.Calendar.Hours, enc x.C.Calendar.Minutes, enc x.C.Calendar.Seconds, enc x.C.Calendar.Days, enc x.C.Calendar.Decrees, enc x.C.Town.Ahead, enc x.C.Town.Changes, enc x.C.Each, enc x.C.Step, enc x.C.First.Low, enc x.C.First.High, enc x.C.Log, enc x.total, enc x.says]
  un cs := match cs with | [v0, v1, v2, v3, v4, v5, v6, v7, v8, v9, v10, v11, v12, v13] => (dec v0).bind fun a0 => (dec v1).bind fun a1 => (dec v2).bind fun a2 => (dec v3).bind fun a3 => (dec v4).bind fun a4 => (dec v5).bind fun a5 => (dec v6).bind fun a6 => (dec v7).bind fun a7 => (dec v8).bind fun a8 => (dec v9).bind fun a9 => (dec v10).bind fun a10 => (dec v11).bind fun a11 => (dec v12).bind fun a12 => (dec v13).bind fun a13 => some ⟨⟨⟨a0, a1, a2, a3, a4⟩, ⟨a5, a6⟩, a7, a8, ⟨a9, a10⟩, a11⟩, a12, a13⟩ | _ => none
  len _ := rfl
  un_le := by
    intro cs a h
    split at h
    · simp only [Option.bind_eq_some_iff, Option.some.injEq] at h
      obtain ⟨x0, h0, x1, h1, x2, h2, x3, h3, x4, h4, x5, h5, x6, h6, x7, h7, x8, h8, x9, h9, x10, h10, x11, h11, x12, h12, x13, h13, rfl⟩ := h
      exact ⟨Enc.dec_le h0, Enc.dec_le h1, Enc.dec_le h2, Enc.dec_le h3, Enc.dec_le h4, Enc.dec_le h5, Enc.dec_le h6, Enc.dec_le h7, Enc.dec_le h8, Enc.dec_le h9, Enc.dec_le h10, Enc.dec_le h11, Enc.dec_le h12, Enc.dec_le h13, trivial⟩
    · cases h
  un_cells x := by simp only [Enc.dec_enc, Option.bind_some]
  isF x := by simp only [PV.isFL, Bool.and_eq_true, and_true]; exact ⟨rfl, rfl, rfl, rfl, rfl, rfl, rfl, rfl, rfl, rfl, rfl, rfl, rfl, rfl⟩
instance encTri : Enc Tri := encOfEl Tri
@[simp] theorem sz_Tri : El.sz Tri = 14 := rfl
@[simp] theorem cells_Tri (x : Tri) : El.cells x = [enc x.C.Calendar.Hours, enc x.C.Calendar.Minutes, enc x.C.Calendar.Seconds, enc x.C.Calendar.Days, enc x.C.Calendar.Decrees, enc x.C.Town.Ahead, enc x.C.Town.Changes, enc x.C.Each, enc x.C.Step, enc x.C.First.Low, enc x.C.First.High, enc x.C.Log, enc x.total, enc x.says] := rfl
@[simp] theorem enc_Tri (x : Tri) : enc x = PV.agg [enc x.C.Calendar.Hours, enc x.C.Calendar.Minutes, enc x.C.Calendar.Seconds, enc x.C.Calendar.Days, enc x.C.Calendar.Decrees, enc x.C.Town.Ahead, enc x.C.Town.Changes, enc x.C.Each, enc x.C.Step, enc x.C.First.Low, enc x.C.First.High, enc x.C.Log, enc x.total, enc x.says] := rfl
@[simp] theorem dec_Tri (v0 v1 v2 v3 v4 v5 v6 v7 v8 v9 v10 v11 v12 v13 : PV) : (dec (PV.agg [v0, v1, v2, v3, v4, v5, v6, v7, v8, v9, v10, v11, v12, v13]) : Option Tri) = (dec v0).bind fun a0 => (dec v1).bind fun a1 => (dec v2).bind fun a2 => (dec v3).bind fun a3 => (dec v4).bind fun a4 => (dec v5).bind fun a5 => (dec v6).bind fun a6 => (dec v7).bind fun a7 => (dec v8).bind fun a8 => (dec v9).bind fun a9 => (dec v10).bind fun a10 => (dec v11).bind fun a11 => (dec v12).bind fun a12 => (dec v13).bind fun a13 => some ⟨⟨⟨a0, a1, a2, a3, a4⟩, ⟨a5, a6⟩, a7, a8, ⟨a9, a10⟩, a11⟩, a12, a13⟩ := rfl
@[simp] theorem eta_Tri (x : Tri) : (Tri.mk (Case.mk (Cal.mk x.C.Calendar.Hours x.C.Calendar.Minutes x.C.Calendar.Seconds x.C.Calendar.Days x.C.Calendar.Decrees) (Town.mk x.C.Town.Ahead x.C.Town.Changes) x.C.Each x.C.Step (Span.mk x.C.First.Low x.C.First.High) x.C.Log) x.total x.says) = x := rfl
@[simp] theorem decl_Tri (ex : Bool) (q : Nat) (l : List Tri) (h : q = l.length) : (dec (PV.lst ex q 14 (encL l)) : Option (List Tri)) = some l := by subst h; exact dec_lst ex l
@[simp] theorem decf_Tri (M : VM) (t : Nat) (out : List Tri) (h : M[t]? = some (.vec (encL out))) : (dec (fzSl M t (out.length * 14) 0 out.length (openCap + 14) 14) : Option (List Tri)) = some out := dec_fzSl M t out h (by decide)
@[simp] theorem lef_Tri (M : VM) (t : Nat) (out : List Tri) (h : M[t]? = some (.vec (encL out))) : (fzSl M t (out.length * 14) 0 out.length (openCap + 14) 14).le (.lst false out.length 14 (encL out)) = True := le_fzSl M t out h (by decide)

structure SpotK where
  stage : Int
  off : Int
  deriving DecidableEq
instance elSpotK : El SpotK where
  sz := 2
  cells x := [enc x.stage, enc x.off]
  un cs := match cs with | [v0, v1] => (dec v0).bind fun a0 => (dec v1).bind fun a1 => some ⟨a0, a1⟩ | _ => none
  len _ := rfl
  un_le := by
    intro cs a h
    split at h
    · simp only [Option.bind_eq_some_iff, Option.some.injEq] at h
      obtain ⟨x0, h0, x1, h1, rfl⟩ := h
      exact ⟨Enc.dec_le h0, Enc.dec_le h1, trivial⟩
    · cases h
  un_cells x := by simp only [Enc.dec_enc, Option.bind_some]
  isF x := by simp only [PV.isFL, Bool.and_eq_true, and_true]; exact ⟨rfl, rfl⟩
instance encSpotK : Enc SpotK := encOfEl SpotK
@[simp] theorem sz_SpotK : El.sz SpotK = 2 := rfl
@[simp] theorem cells_SpotK (x : SpotK) : El.cells x = [enc x.stage, enc x.off] := rfl
@[simp] theorem enc_SpotK (x : SpotK) : enc x = PV.agg [enc x.stage, enc x.off] := rfl
@[simp] theorem dec_SpotK (v0 v1 : PV) : (dec (PV.agg [v0, v1]) : Option SpotK) = (dec v0).bind fun a0 => (dec v1).bind fun a1 => some ⟨a0, a1⟩ := rfl
@[simp] theorem eta_SpotK (x : SpotK) : (SpotK.mk x.stage x.off) = x := rfl
@[simp] theorem decl_SpotK (ex : Bool) (q : Nat) (l : List SpotK) (h : q = l.length) : (dec (PV.lst ex q 2 (encL l)) : Option (List SpotK)) = some l := by subst h; exact dec_lst ex l
@[simp] theorem decf_SpotK (M : VM) (t : Nat) (out : List SpotK) (h : M[t]? = some (.vec (encL out))) : (dec (fzSl M t (out.length * 2) 0 out.length (openCap + 2) 2) : Option (List SpotK)) = some out := dec_fzSl M t out h (by decide)
@[simp] theorem lef_SpotK (M : VM) (t : Nat) (out : List SpotK) (h : M[t]? = some (.vec (encL out))) : (fzSl M t (out.length * 2) 0 out.length (openCap + 2) 2).le (.lst false out.length 2 (encL out)) = True := le_fzSl M t out h (by decide)
end Go.RS.DC

/- The chapter court, as plain functions (1): cases, what is said, truths. -/
namespace Go.RS.DC
open Go Go.RS
open Go.RS.Enc (enc dec)
def stagesI (c : Case) : Int := (allR c.Calendar - 1) / c.Each + 1
def lastN (c : Case) : Nat := ((allR c.Calendar - 1) / c.Each).toNat
def entOk (all : Int) (x : Entry) : Bool := spanOk x.When 0 (all - 1) && spanOk x.Late 0 60
def headK (c : Case) : Bool := decide (CheckTownR c.Calendar c.Town = 0) && wi c.Each 1 1000000 && wi c.Step 0 3 && spanOk c.First (-30) 30 && decide (c.Log.length ≤ 6)
def okK (c : Case) : Bool := headK c && decide (stagesI c ≤ 40) && c.Log.all (entOk (allR c.Calendar))
def checkK (c : Case) : Int := if okK c then 0 else 100
structure CaseOk (c : Case) : Prop where
  ct : CheckTownR c.Calendar c.Town = 0
  o : CalOk c.Calendar
  ot : TownOk c.Calendar c.Town
  e1 : 1 ≤ c.Each
  e2 : c.Each ≤ 1000000
  s0 : 0 ≤ c.Step
  s3 : c.Step ≤ 3
  f0 : -30 ≤ c.First.Low
  f1 : c.First.Low ≤ c.First.High
  f2 : c.First.High ≤ 30
  l6 : c.Log.length ≤ 6
  a1 : 1 ≤ allR c.Calendar
  a2 : allR c.Calendar ≤ 864010
  st : lastN c < 40
  en : ∀ x ∈ c.Log, 0 ≤ x.When.Low ∧ x.When.Low ≤ x.When.High ∧ x.When.High ≤ allR c.Calendar - 1 ∧ 0 ≤ x.Late.Low ∧ x.Late.Low ≤ x.Late.High ∧ x.Late.High ≤ 60
theorem okK_ok {c : Case} (h : okK c = true) : CaseOk c := by
  simp only [okK, headK, Bool.and_eq_true, decide_eq_true_eq, wi_iff, spanOk_iff, List.all_eq_true] at h
  obtain ⟨⟨⟨⟨⟨⟨h1, ⟨h2, h3⟩⟩, ⟨h4, h5⟩⟩, ⟨h6, h7, h8⟩⟩, h9⟩, h10⟩, h11⟩ := h
  obtain ⟨g1, g2⟩ := checkTown_zero h1
  have o := okC_ok g1
  have ab := allR_b o
  have hq : 0 ≤ (allR c.Calendar - 1) / c.Each := Int.ediv_nonneg (by omega) (by omega)
  unfold stagesI at h10
  refine ⟨h1, o, okT_ok g2, h2, h3, h4, h5, h6, h7, h8, h9, ab.1, ab.2, by unfold lastN; omega, fun x hx => ?_⟩
  have := h11 x hx
  simp only [entOk, Bool.and_eq_true, spanOk_iff] at this
  obtain ⟨⟨a, b, c⟩, d, e, f⟩ := this
  exact ⟨a, b, c, d, e, f⟩
/-- The stage of a tick. -/
theorem stage_le {c : Case} (k : CaseOk c) {t : Int} (h0 : 0 ≤ t) (h1 : t < allR c.Calendar) : 0 ≤ t / c.Each ∧ (t / c.Each).toNat ≤ lastN c := by
  have e1 := k.e1
  have q0 : 0 ≤ t / c.Each := Int.ediv_nonneg h0 (by omega)
  have q1 : t / c.Each ≤ (allR c.Calendar - 1) / c.Each := Int.ediv_le_ediv (by omega) (by omega)
  unfold lastN
  omega
theorem lastN_cast {c : Case} (k : CaseOk c) : ((lastN c : Nat) : Int) = (allR c.Calendar - 1) / c.Each := by
  have a1 := k.a1
  have e1 := k.e1
  have q0 : 0 ≤ (allR c.Calendar - 1) / c.Each := Int.ediv_nonneg (by omega) (by omega)
  unfold lastN; omega
/-! ### What is said -/
/-- Is a reading shown at some tick of a stage, from a first one to a last one, with an error? -/
def sayB (c : Case) (r : Reading) (first last : Int) (k : Int) (off : Int) : Bool :=
  wi off (-30) 30 && (ticksR c.Calendar c.Town r).any fun t => wi (t - off) (max 0 first) (min (allR c.Calendar - 1) last) && decide ((t - off) / c.Each = k)
theorem sayB_iff {c : Case} (o : CaseOk c) (r : Reading) (first last k off : Int) : sayB c r first last k off = true ↔
    -30 ≤ off ∧ off ≤ 30 ∧ ∃ t, 0 ≤ t ∧ t < allR c.Calendar ∧ first ≤ t ∧ t ≤ last ∧ t / c.Each = k ∧ 0 ≤ t + off ∧ t + off < allR c.Calendar ∧ localR c.Calendar c.Town (t + off) = r := by
  unfold sayB
  simp only [Bool.and_eq_true, wi_iff, List.any_eq_true, decide_eq_true_eq, mem_ticksR o.o o.ot]
  constructor
  · rintro ⟨⟨h1, h2⟩, t, ⟨h3, h4, h5⟩, ⟨h6, h7⟩, h8⟩
    refine ⟨h1, h2, t - off, by omega, by omega, by omega, by omega, h8, by omega, by omega, ?_⟩
    rw [show t - off + off = t by omega]; exact h5
  · rintro ⟨h1, h2, t, h3, h4, h5, h6, h7, h8, h9, h10⟩
    refine ⟨⟨h1, h2⟩, t + off, ⟨h8, h9, h10⟩, ⟨?_, ?_⟩, ?_⟩
    · rw [show t + off - off = t by omega]; omega
    · rw [show t + off - off = t by omega]; omega
    · rw [show t + off - off = t by omega]; exact h7
def entB (c : Case) (x : Entry) (k off : Int) : Bool := sayB c x.Reading (x.When.Low - x.Late.High) (x.When.High - x.Late.Low) k off
abbrev Says2 := Int → Int → Nat
/-- A bit more where something holds. -/
def orS (S : Says2) (n : Nat) (p : Int → Int → Bool) : Says2 := fun k x => if p k x then S k x ||| 2 ^ n else S k x
def openL (c : Case) : Nat → List Entry → Says2 → Says2
  | _, [], S => S
  | i, x :: l, S => openL c (i + 1) l (orS S i (entB c x))
def saysK (c : Case) : Says2 := openL c 0 c.Log fun _ _ => 0
theorem orS_bit (S : Says2) (n : Nat) (p : Int → Int → Bool) (k x : Int) (i : Nat) : (orS S n p k x).testBit i = ((S k x).testBit i || (decide (n = i) && p k x)) := by
  unfold orS
  split
  · rename_i h
    rw [Nat.testBit_or, Nat.testBit_two_pow, h, Bool.and_true]
  · rename_i h
    have : p k x = false := by simpa using h
    rw [this]; simp
theorem openL_bit (c : Case) (k x : Int) (b : Nat) : ∀ (l : List Entry) (i : Nat) (S : Says2), (openL c i l S k x).testBit b = ((S k x).testBit b || (decide (i ≤ b) && ((l[b - i]?).map fun e => entB c e k x).getD false))
  | [], i, S => by simp [openL]
  | e :: l, i, S => by
    rw [openL, openL_bit c k x b l (i + 1), orS_bit]
    by_cases h : i = b
    · subst h
      have : ¬ i + 1 ≤ i := by omega
      simp [this]
    · by_cases h2 : i + 1 ≤ b
      · have h3 : i ≤ b := by omega
        obtain ⟨j, hj⟩ : ∃ j, b - i = j + 1 := ⟨b - i - 1, by omega⟩
        have hj2 : b - (i + 1) = j := by omega
        rw [hj, hj2]
        simp [h, h2, h3]
      · have h3 : ¬ i ≤ b := by omega
        simp [h, h2, h3]
theorem saysK_bit (c : Case) (k x : Int) (b : Nat) : (saysK c k x).testBit b = ((c.Log[b]?).map fun e => entB c e k x).getD false := by
  unfold saysK
  rw [openL_bit]; simp
theorem openL_lt (c : Case) (k x : Int) (N : Nat) : ∀ (l : List Entry) (i : Nat) (S : Says2), i + l.length ≤ N → S k x < 2 ^ N → openL c i l S k x < 2 ^ N
  | [], _, _, _, h => h
  | e :: l, i, S, hN, h => by
    rw [openL]
    simp only [List.length_cons] at hN
    refine openL_lt c k x N l (i + 1) _ (by omega) ?_
    unfold orS
    split
    · exact Nat.or_lt_two_pow h (Nat.pow_lt_pow_right (by decide) (by omega))
    · exact h
theorem saysK_lt (c : Case) (k x : Int) : saysK c k x < 2 ^ c.Log.length := openL_lt c k x _ c.Log 0 _ (by omega) (Nat.pow_pos (by decide))
/-! ### Sets -/
/-- What is in the one, and not in the other. -/
def anb (a b : Nat) : Nat := a ^^^ (a &&& b)
theorem anb_bit (a b i : Nat) : (anb a b).testBit i = (a.testBit i && !b.testBit i) := by
  unfold anb
  rw [Nat.testBit_xor, Nat.testBit_and]
  cases a.testBit i <;> cases b.testBit i <;> rfl
theorem anb_lt {a n : Nat} (b : Nat) (h : a < 2 ^ n) : anb a b < 2 ^ n := Nat.xor_lt_two_pow h (Nat.lt_of_le_of_lt Nat.and_le_left h)
theorem zero_bits {a : Nat} : a = 0 ↔ ∀ i, a.testBit i = false := ⟨fun h i => by rw [h]; exact Nat.zero_testBit i, fun h => Nat.eq_of_testBit_eq fun i => by rw [h i, Nat.zero_testBit]⟩
/-- All entries. -/
def fullK (c : Case) : Nat := 2 ^ c.Log.length - 1
theorem full_bit (n i : Nat) : (2 ^ n - 1).testBit i = decide (i < n) := Nat.testBit_two_pow_sub_one n i
/-! ### Ways -/
def offsL (lo hi : Int) : List Int := (List.range (hi - lo + 1).toNat).map fun (i : Nat) => lo + (i : Int)
theorem mem_offsL {lo hi x : Int} : x ∈ offsL lo hi ↔ lo ≤ x ∧ x ≤ hi := by
  unfold offsL
  rw [List.mem_map]
  constructor
  · rintro ⟨i, hi, rfl⟩; rw [List.mem_range] at hi; omega
  · rintro ⟨h0, h1⟩; exact ⟨(x - lo).toNat, by rw [List.mem_range]; omega, by omega⟩
def firstO (c : Case) : List Int := offsL c.First.Low c.First.High
def nextO (c : Case) (x : Int) : List Int := offsL (max (-30) (x - c.Step)) (min 30 (x + c.Step))
theorem mem_nextO {c : Case} {x y : Int} : y ∈ nextO c x ↔ -30 ≤ y ∧ y ≤ 30 ∧ x - c.Step ≤ y ∧ y ≤ x + c.Step := by
  unfold nextO; rw [mem_offsL]; omega
abbrev Allow := Nat → Int → Bool
def PathA (c : Case) (A : Allow) : Nat → Int → List Int → Prop
  | _, _, [] => True
  | k, x, y :: l => y ∈ nextO c x ∧ A (k + 1) y = true ∧ PathA c A (k + 1) y l
def WayA (c : Case) (A : Allow) : List Int → Prop
  | [] => False
  | x :: l => x ∈ firstO c ∧ A 0 x = true ∧ PathA c A 0 x l
def restN (S : Says2) : Nat → List Int → Nat → Nat
  | _, [], n => n
  | k, x :: l, n => restN S (k + 1) l (anb n (S k x))
theorem restN_bit (S : Says2) (i : Nat) : ∀ (l : List Int) (k n : Nat), (restN S k l n).testBit i = (n.testBit i && !(l.zipIdx k).any fun p => (S p.2 p.1).testBit i)
  | [], k, n => by simp [restN]
  | x :: l, k, n => by
    rw [restN, restN_bit S i l, anb_bit, List.zipIdx_cons, List.any_cons]
    cases n.testBit i <;> cases (S k x).testBit i <;> simp
theorem restN_zero {S : Says2} {l : List Int} {n : Nat} : restN S 0 l n = 0 ↔ ∀ i, n.testBit i = true → ∃ (k : Nat) (x : Int), l[k]? = some x ∧ (S k x).testBit i = true := by
  rw [zero_bits]
  constructor
  · intro h i hi
    have h1 := h i
    rw [restN_bit, hi, Bool.true_and] at h1
    have h2 : (l.zipIdx 0).any (fun p => (S p.2 p.1).testBit i) = true := by simpa using h1
    obtain ⟨⟨x, k⟩, hm, hp⟩ := List.any_eq_true.1 h2
    rw [List.mem_zipIdx_iff_getElem?] at hm
    exact ⟨k, x, hm, hp⟩
  · intro h i
    rw [restN_bit]
    cases hi : n.testBit i with
    | false => rfl
    | true =>
      obtain ⟨k, x, h1, h2⟩ := h i hi
      have : (l.zipIdx 0).any (fun p => (S p.2 p.1).testBit i) = true := List.any_eq_true.2 ⟨(x, k), by rw [List.mem_zipIdx_iff_getElem?]; exact h1, h2⟩
      rw [this]; rfl
/-- A truth in which some things become true, all of it allowed. -/
def TruthA (c : Case) (S : Says2) (A : Allow) (need : Nat) (l : List Int) : Prop := l.length = lastN c + 1 ∧ WayA c A l ∧ restN S 0 l need = 0
/-- Can all that is needed become true, from a stage on, so many stages before the last one? -/
def canA (c : Case) (S : Says2) (A : Allow) : Nat → Nat → Int → Nat → Bool
  | 0, k, x, n => decide (anb n (S k x) = 0)
  | r + 1, k, x, n => (nextO c x).any fun y => A (k + 1) y && canA c S A r (k + 1) y (anb n (S k x))
def canB (c : Case) (S : Says2) (A : Allow) (need : Nat) : Bool := (firstO c).any fun y => A 0 y && canA c S A (lastN c) 0 y need
theorem canA_iff {c : Case} {S : Says2} {A : Allow} : ∀ (r k : Nat) (x : Int) (n : Nat), canA c S A r k x n = true ↔ ∃ l, l.length = r ∧ PathA c A k x l ∧ restN S k (x :: l) n = 0
  | 0, k, x, n => by
    rw [canA, decide_eq_true_eq]
    constructor
    · intro h; exact ⟨[], rfl, trivial, h⟩
    · rintro ⟨l, hl, _, h⟩
      rw [List.eq_nil_of_length_eq_zero hl] at h
      exact h
  | r + 1, k, x, n => by
    rw [canA, List.any_eq_true]
    constructor
    · rintro ⟨y, hy, h⟩
      rw [Bool.and_eq_true, canA_iff r] at h
      obtain ⟨ha, l, h1, h2, h3⟩ := h
      exact ⟨y :: l, by simp [h1], ⟨hy, ha, h2⟩, h3⟩
    · rintro ⟨l, h1, h2, h3⟩
      match l, h1 with
      | y :: l, h1 =>
        obtain ⟨g1, g2, g3⟩ := h2
        refine ⟨y, g1, ?_⟩
        rw [Bool.and_eq_true, canA_iff r]
        exact ⟨g2, l, by simpa using h1, g3, h3⟩
theorem canB_iff {c : Case} {S : Says2} {A : Allow} {need : Nat} : canB c S A need = true ↔ ∃ l, TruthA c S A need l := by
  unfold canB TruthA
  rw [List.any_eq_true]
  constructor
  · rintro ⟨y, hy, h⟩
    rw [Bool.and_eq_true, canA_iff] at h
    obtain ⟨ha, l, h1, h2, h3⟩ := h
    exact ⟨y :: l, by simp [h1], ⟨hy, ha, h2⟩, h3⟩
  · rintro ⟨l, h1, h2, h3⟩
    match l, h1, h2, h3 with
    | y :: l, h1, ⟨g1, g2, g3⟩, h3 =>
      refine ⟨y, g1, ?_⟩
      rw [Bool.and_eq_true, canA_iff]
      exact ⟨g2, l, by simpa using h1, g3, h3⟩
/-- The states of a stage: an error, and what is not true yet ahead of it. -/
def reachL (c : Case) (S : Says2) (A : Allow) (need : Nat) : Nat → List (Int × Nat)
  | 0 => ((firstO c).filter (A 0)).map fun y => (y, need)
  | k + 1 => (reachL c S A need k).flatMap fun p => ((nextO c p.1).filter (A (k + 1))).map fun y => (y, anb p.2 (S k p.1))
theorem path_snoc {c : Case} {A : Allow} : ∀ (l : List Int) (k : Nat) (x y z : Int), (x :: l).getLast? = some y → (PathA c A k x (l ++ [z]) ↔ PathA c A k x l ∧ z ∈ nextO c y ∧ A (k + l.length + 1) z = true)
  | [], k, x, y, z, h => by
    simp only [List.getLast?_singleton, Option.some.injEq] at h
    subst h
    simp [PathA]
  | w :: l, k, x, y, z, h => by
    rw [List.getLast?_cons_cons] at h
    rw [List.cons_append, PathA, PathA, path_snoc l (k + 1) w y z h]
    simp only [List.length_cons]
    rw [show k + 1 + l.length + 1 = k + (l.length + 1) + 1 by omega]
    constructor
    · rintro ⟨a, b, c, d⟩; exact ⟨⟨a, b, c⟩, d⟩
    · rintro ⟨⟨a, b, c⟩, d⟩; exact ⟨a, b, c, d⟩
theorem last_snoc (a : Int) (l : List Int) (x : Int) : (a :: (l ++ [x])).getLast? = some x := by
  rw [← List.cons_append]; exact List.getLast?_concat
theorem restN_snoc (S : Says2) : ∀ (l : List Int) (k n : Nat) (y : Int), restN S k (l ++ [y]) n = anb (restN S k l n) (S ((k + l.length : Nat) : Int) y)
  | [], k, n, y => by simp [restN]
  | x :: l, k, n, y => by
    rw [List.cons_append, restN, restN, restN_snoc S l (k + 1)]
    simp only [List.length_cons]
    rw [show k + 1 + l.length = k + (l.length + 1) by omega]
/-- A state that is reached: the way to it. -/
theorem mem_reachL {c : Case} {S : Says2} {A : Allow} {need : Nat} : ∀ (k : Nat) (y : Int) (n : Nat), (y, n) ∈ reachL c S A need k ↔ ∃ l, l.length = k ∧ WayA c A (l ++ [y]) ∧ n = restN S 0 l need
  | 0, y, n => by
    rw [reachL, List.mem_map]
    constructor
    · rintro ⟨z, hz, h⟩
      cases h
      rw [List.mem_filter] at hz
      exact ⟨[], rfl, ⟨hz.1, hz.2, trivial⟩, rfl⟩
    · rintro ⟨l, hl, hw, rfl⟩
      rw [List.eq_nil_of_length_eq_zero hl] at hw ⊢
      exact ⟨y, List.mem_filter.2 ⟨hw.1, hw.2.1⟩, rfl⟩
  | k + 1, y, n => by
    rw [reachL, List.mem_flatMap]
    constructor
    · rintro ⟨⟨x, m⟩, hx, h⟩
      rw [List.mem_map] at h
      obtain ⟨z, hz, h⟩ := h
      cases h
      rw [List.mem_filter] at hz
      obtain ⟨l, h1, h2, rfl⟩ := (mem_reachL k x m).1 hx
      refine ⟨l ++ [x], by simp [h1], ?_, by rw [restN_snoc, h1, Nat.zero_add]⟩
      match l, h2 with
      | [], h2 => subst h1; exact ⟨h2.1, h2.2.1, hz.1, hz.2, trivial⟩
      | a :: l, h2 =>
        refine ⟨h2.1, h2.2.1, ?_⟩
        have := (path_snoc (c := c) (A := A) (l ++ [x]) 0 a x y (last_snoc _ _ _)).2 ⟨h2.2.2, hz.1, by
          simp only [List.length_append, List.length_cons, List.length_nil] at h1 ⊢
          rw [show 0 + (l.length + 1) + 1 = k + 1 by omega]; exact hz.2⟩
        simpa using this
    · rintro ⟨l, h1, h2, rfl⟩
      obtain ⟨m, x, rfl⟩ : ∃ m x, l = m ++ [x] := by
        rcases List.eq_nil_or_concat l with h | ⟨m, x, h⟩
        · subst h; simp at h1
        · exact ⟨m, x, by rw [h, List.concat_eq_append]⟩
      have hm : m.length = k := by simpa using h1
      refine ⟨(x, restN S 0 m need), (mem_reachL k x _).2 ⟨m, hm, ?_, rfl⟩, List.mem_map.2 ⟨y, List.mem_filter.2 ?_, ?_⟩⟩
      · match m, h2 with
        | [], h2 => exact ⟨h2.1, h2.2.1, trivial⟩
        | a :: m, h2 =>
          refine ⟨h2.1, h2.2.1, ?_⟩
          have h3 : PathA c A 0 a ((m ++ [x]) ++ [y]) := by simpa using h2.2.2
          exact ((path_snoc (m ++ [x]) 0 a x y (last_snoc _ _ _)).1 h3).1
      · match m, h2 with
        | [], h2 => subst hm; exact ⟨h2.2.2.1, h2.2.2.2.1⟩
        | a :: m, h2 =>
          have h3 : PathA c A 0 a ((m ++ [x]) ++ [y]) := by simpa using h2.2.2
          have h4 := ((path_snoc (m ++ [x]) 0 a x y (last_snoc _ _ _)).1 h3).2
          simp only [List.length_append, List.length_cons, List.length_nil] at h4 hm
          rw [show 0 + (m.length + 1) + 1 = k + 1 by omega] at h4
          exact h4
      · rw [restN_snoc, hm, Nat.zero_add]
/-- Can a stage have an error? -/
def foundB (c : Case) (S : Says2) (A : Allow) (need k : Nat) (x : Int) : Bool := (reachL c S A need k).any fun p => decide (p.1 = x) && canA c S A (lastN c - k) k p.1 p.2
theorem restN_append (S : Says2) : ∀ (l m : List Int) (k n : Nat), restN S k (l ++ m) n = restN S (k + l.length) m (restN S k l n)
  | [], m, k, n => by simp [restN]
  | x :: l, m, k, n => by
    rw [List.cons_append, restN, restN, restN_append S l m (k + 1)]
    simp only [List.length_cons]
    rw [show k + 1 + l.length = k + (l.length + 1) by omega]
theorem path_append {c : Case} {A : Allow} : ∀ (l m : List Int) (k : Nat) (x y : Int), PathA c A k x (l ++ y :: m) ↔ PathA c A k x (l ++ [y]) ∧ PathA c A (k + l.length + 1) y m
  | [], m, k, x, y => by simp [PathA, and_assoc]
  | w :: l, m, k, x, y => by
    rw [List.cons_append, List.cons_append, PathA, PathA, path_append l m (k + 1) w y]
    simp only [List.length_cons]
    rw [show k + 1 + l.length + 1 = k + (l.length + 1) + 1 by omega]
    simp only [and_assoc]
theorem way_append {c : Case} {A : Allow} (l m : List Int) (y : Int) : WayA c A (l ++ y :: m) ↔ WayA c A (l ++ [y]) ∧ PathA c A l.length y m := by
  cases l with
  | nil => simp [WayA, PathA, and_assoc]
  | cons x l =>
    rw [List.cons_append, List.cons_append, WayA, WayA, path_append]
    simp only [List.length_cons, and_assoc, Nat.zero_add]
theorem foundB_iff {c : Case} {S : Says2} {A : Allow} {need k : Nat} (hk : k ≤ lastN c) {x : Int} : foundB c S A need k x = true ↔ ∃ l, TruthA c S A need l ∧ l[k]? = some x := by
  unfold foundB
  rw [List.any_eq_true]
  constructor
  · rintro ⟨⟨y, n⟩, hm, h⟩
    simp only [Bool.and_eq_true, decide_eq_true_eq] at h
    obtain ⟨rfl, h⟩ := h
    obtain ⟨l, h1, h2, rfl⟩ := (mem_reachL k y n).1 hm
    obtain ⟨m, g1, g2, g3⟩ := (canA_iff _ _ _ _).1 h
    refine ⟨l ++ y :: m, ⟨by simp [h1, g1]; omega, (way_append l m y).2 ⟨h2, by rw [h1]; exact g2⟩, ?_⟩, ?_⟩
    · rw [restN_append, h1, Nat.zero_add]; exact g3
    · rw [List.getElem?_append_right (by omega), h1, Nat.sub_self]; rfl
  · rintro ⟨l, ⟨h1, h2, h3⟩, hx⟩
    have hkl := (List.getElem?_eq_some_iff.1 hx).1
    have hgx := (List.getElem?_eq_some_iff.1 hx).2
    have hl : l = l.take k ++ x :: l.drop (k + 1) := by
      rw [← hgx, ← List.drop_eq_getElem_cons hkl, List.take_append_drop]
    have hlt : (l.take k).length = k := by rw [List.length_take]; omega
    rw [hl] at h2 h3
    rw [way_append, hlt] at h2
    rw [restN_append, hlt, Nat.zero_add] at h3
    refine ⟨(x, restN S 0 (l.take k) need), (mem_reachL k x _).2 ⟨l.take k, hlt, h2.1, rfl⟩, ?_⟩
    simp only [Bool.and_eq_true, decide_eq_true_eq, true_and]
    exact (canA_iff _ _ _ _).2 ⟨l.drop (k + 1), by rw [List.length_drop]; omega, h2.2, h3⟩
end Go.RS.DC

/- The chapter court: sets as numbers. -/
namespace Go.RS.DC
open Go Go.RS
open Go.RS.Enc (enc dec)
theorem bv_nat {a : Nat} (h : a < 2 ^ 62) : (BitVec.ofInt 64 (a : Int)).toNat = a := by
  rw [BitVec.ofInt_natCast, BitVec.toNat_ofNat, Nat.mod_eq_of_lt (Nat.lt_trans h (by decide))]
theorem bit_or {a b : Nat} (ha : a < 2 ^ 62) (hb : b < 2 ^ 62) : IntKind.i64.wrap ((BitVec.ofInt 64 (a : Int) ||| BitVec.ofInt 64 (b : Int)).toNat : Int) = ((a ||| b : Nat) : Int) := by
  rw [BitVec.toNat_or, bv_nat ha, bv_nat hb]
  have := Nat.or_lt_two_pow ha hb
  exact wrap64 (by omega) (by omega)
theorem bit_and {a b : Nat} (ha : a < 2 ^ 62) (hb : b < 2 ^ 62) : IntKind.i64.wrap ((BitVec.ofInt 64 (a : Int) &&& BitVec.ofInt 64 (b : Int)).toNat : Int) = ((a &&& b : Nat) : Int) := by
  rw [BitVec.toNat_and, bv_nat ha, bv_nat hb]
  have := Nat.lt_of_le_of_lt (Nat.and_le_left (n := a) (m := b)) ha
  exact wrap64 (by omega) (by omega)
theorem bit_anb {a b : Nat} (ha : a < 2 ^ 62) (hb : b < 2 ^ 62) : IntKind.i64.wrap ((BitVec.ofInt 64 (a : Int) &&& ~~~BitVec.ofInt 64 (b : Int)).toNat : Int) = ((anb a b : Nat) : Int) := by
  have e : (BitVec.ofInt 64 (a : Int) &&& ~~~BitVec.ofInt 64 (b : Int)).toNat = anb a b := by
    apply Nat.eq_of_testBit_eq
    intro i
    rw [anb_bit, BitVec.testBit_toNat, BitVec.getLsbD_and, BitVec.getLsbD_not]
    rw [← BitVec.testBit_toNat, ← BitVec.testBit_toNat, bv_nat ha, bv_nat hb]
    by_cases hi : i < 64
    · simp [hi]
    · have : a.testBit i = false := Nat.testBit_lt_two_pow (Nat.lt_of_lt_of_le ha (Nat.pow_le_pow_right (by decide) (by omega)))
      simp [this]
  rw [e]
  have := anb_lt b ha
  exact wrap64 (by omega) (by omega)
theorem bit_shl {n : Nat} (h : n < 62) : IntKind.i64.wrap ((1 : Int) * 2 ^ min ((n : Int).toNat) 64) = ((2 ^ n : Nat) : Int) := by
  have h1 : min ((n : Int).toNat) 64 = n := by omega
  have h2 : (2 : Nat) ^ n < 2 ^ 62 := Nat.pow_lt_pow_right (by decide) h
  rw [h1, Int.one_mul, show ((2 : Int) ^ n) = ((2 ^ n : Nat) : Int) by simp]
  generalize 2 ^ n = m at h2
  exact wrap64 (by omega) (by omega)
def p2 (n : Nat) : Nat := 2 ^ n
theorem p2_lt {n : Nat} (h : n < 62) : p2 n < 2 ^ 62 := Nat.pow_lt_pow_right (by decide) h
theorem i_shl {n : Nat} (h : n < 62) : binInt .shl .i64 1 (n : Int) = some (.int .i64 ((p2 n : Nat) : Int)) := by
  rw [binInt_shl, if_neg (by omega)]
  exact congrArg (fun x => some (Value.int .i64 x)) (bit_shl h)
theorem i_or {a b : Nat} (ha : a < 2 ^ 62) (hb : b < 2 ^ 62) : binInt .or .i64 (a : Int) (b : Int) = some (.int .i64 ((a ||| b : Nat) : Int)) := by
  rw [binInt_or]
  exact congrArg (fun x => some (Value.int .i64 x)) (bit_or ha hb)
theorem i_and {a b : Nat} (ha : a < 2 ^ 62) (hb : b < 2 ^ 62) : binInt .and .i64 (a : Int) (b : Int) = some (.int .i64 ((a &&& b : Nat) : Int)) := by
  rw [binInt_and]
  exact congrArg (fun x => some (Value.int .i64 x)) (bit_and ha hb)
theorem i_anb {a b : Nat} (ha : a < 2 ^ 62) (hb : b < 2 ^ 62) : binInt .andNot .i64 (a : Int) (b : Int) = some (.int .i64 ((anb a b : Nat) : Int)) := by
  rw [binInt_andNot]
  exact congrArg (fun x => some (Value.int .i64 x)) (bit_anb ha hb)
end Go.RS.DC

/- The chapter court, as plain functions (2): what is told. -/
namespace Go.RS.DC
open Go Go.RS
open Go.RS.Enc (enc dec)
abbrev anyA : Allow := fun _ _ => true
def Truth (c : Case) (l : List Int) : Prop := TruthA c (saysK c) anyA (fullK c) l
def walkB (c : Case) : Option Int → List Int → Bool
  | _, [] => true
  | none, x :: l => (firstO c).contains x && walkB c (some x) l
  | some y, x :: l => (nextO c y).contains x && walkB c (some x) l
def truthB (c : Case) (l : List Int) : Bool := decide (l.length = lastN c + 1) && walkB c none l && decide (restN (saysK c) 0 l (fullK c) = 0)
def IsTruthR (c : Case) (l : List Int) : Bool × Int := if okK c then (truthB c l, 0) else (false, 100)
def canK (c : Case) : Bool := canB c (saysK c) anyA (fullK c)
theorem canK_iff {c : Case} : canK c = true ↔ ∃ l, Truth c l := canB_iff
def askedK (c : Case) (ok : Bool) : Int := if okK c then (if ok then (if canK c then 0 else 102) else 101) else 100
/-! ### A truth -/
def greedyL (c : Case) (S : Says2) (A : Allow) : Nat → Nat → List Int → Nat → List Int
  | 0, k, cand, n => match cand.find? fun y => A k y && canA c S A 0 k y n with
    | none => []
    | some y => [y]
  | r + 1, k, cand, n => match cand.find? fun y => A k y && canA c S A (r + 1) k y n with
    | none => []
    | some y => y :: greedyL c S A r (k + 1) (nextO c y) (anb n (S k y))
def truthL (c : Case) : List Int := greedyL c (saysK c) anyA (lastN c) 0 (firstO c) (fullK c)
def TruthR (c : Case) : List Int × Int := if askedK c true = 0 then (truthL c, 0) else ([], askedK c true)
/-! ### The errors of a tick, and what is shown -/
def errL (c : Case) (k : Nat) : List Int := (offsL (-30) 30).filter fun x => foundB c (saysK c) anyA (fullK c) k x
def stageN (c : Case) (t : Int) : Nat := (t / c.Each).toNat
def isTickK (c : Case) (t : Int) : Bool := wi t 0 (allR c.Calendar - 1)
def ErrorsR (c : Case) (t : Int) : List Int × Int := if askedK c (isTickK c t) = 0 then (errL c (stageN c t), 0) else ([], askedK c (isTickK c t))
def shownL (c : Case) (t : Int) (l : List Int) : List Reading := l.filterMap fun off => if (LocalR c.Calendar c.Town (t + off)).2 = 0 then some (LocalR c.Calendar c.Town (t + off)).1 else none
def ShownR (c : Case) (t : Int) : List Reading × Int := if (ErrorsR c t).2 = 0 then (shownL c t (ErrorsR c t).1, 0) else ([], (ErrorsR c t).2)
/-! ### When -/
def insU (n : Int) : List Int → List Int
  | [] => [n]
  | x :: l => if n < x then n :: x :: l else if n = x then x :: l else x :: insU n l
theorem mem_insU {n x : Int} : ∀ {l : List Int}, x ∈ insU n l ↔ x = n ∨ x ∈ l
  | [] => by simp [insU]
  | y :: l => by
    rw [insU]
    split
    · simp
    · split
      · rename_i h1 h2; subst h2; simp
      · rw [List.mem_cons, mem_insU, List.mem_cons]
        constructor
        · rintro (h | h | h)
          · exact .inr (.inl h)
          · exact .inl h
          · exact .inr (.inr h)
        · rintro (h | h | h)
          · exact .inr (.inl h)
          · exact .inl h
          · exact .inr (.inr h)
theorem insU_sorted {n : Int} : ∀ {l : List Int}, l.Pairwise (· < ·) → (insU n l).Pairwise (· < ·)
  | [], _ => by simp [insU]
  | y :: l, h => by
    rw [insU]
    rw [List.pairwise_cons] at h
    split
    · rename_i h1
      rw [List.pairwise_cons, List.pairwise_cons]
      refine ⟨fun z hz => ?_, h⟩
      rcases List.mem_cons.1 hz with rfl | hz
      · exact h1
      · have := h.1 z hz; omega
    · split
      · exact List.pairwise_cons.2 h
      · rename_i h1 h2
        rw [List.pairwise_cons]
        refine ⟨fun z hz => ?_, insU_sorted h.2⟩
        rcases mem_insU.1 hz with rfl | hz
        · omega
        · exact h.1 z hz
def sortU : List Int → List Int
  | [] => []
  | n :: l => insU n (sortU l)
theorem mem_sortU {x : Int} : ∀ {l : List Int}, x ∈ sortU l ↔ x ∈ l
  | [] => by simp [sortU]
  | n :: l => by rw [sortU, mem_insU, mem_sortU, List.mem_cons]
theorem sortU_sorted : ∀ l : List Int, (sortU l).Pairwise (· < ·)
  | [] => .nil
  | n :: l => insU_sorted (sortU_sorted l)
/-- The ticks at which a reading can have been shown, as they are found. -/
def rawL (c : Case) (r : Reading) : List Int := (ticksR c.Calendar c.Town r).flatMap fun n => ((offsL (-30) 30).filter fun off => isTickK c (n - off) && foundB c (saysK c) anyA (fullK c) (stageN c (n - off)) off).map fun off => n - off
def whenL (c : Case) (r : Reading) : List Int := sortU (rawL c r)
def WhenR (c : Case) (r : Reading) : List Int × Int := if askedK c true = 0 then (whenL c r, 0) else ([], askedK c true)
/-! ### Verdicts -/
def claimOk (c : Case) (x : Claim) : Bool := wi x.Kind 0 2 && spanOk x.When 0 (allR c.Calendar - 1) && wi x.Ticks (-30) 30
def offB (x : Claim) (off : Int) : Bool := if x.Kind = 1 then decide (off < x.Ticks) else decide (x.Ticks < (if off < -off then -off else off))
def markB (c : Case) (x : Claim) (k off : Int) : Bool :=
  if x.Kind = 0 then sayB c x.Reading x.When.Low x.When.High k off else wi off (-30) 30 && wi k (x.When.Low / c.Each) (x.When.High / c.Each) && offB x off
def saysX (c : Case) (x : Claim) : Says2 := orS (saysK c) c.Log.length (markB c x)
def metB (c : Case) (x : Claim) : Bool := canB c (saysX c x) anyA (fullK c ||| 2 ^ c.Log.length)
def noneB (c : Case) (x : Claim) : Bool := canB c (saysX c x) (fun k y => decide (saysX c x k y &&& 2 ^ c.Log.length = 0)) (fullK c)
def verdK (c : Case) (x : Claim) : Int :=
  if (if x.Kind = 0 then metB c x else noneB c x) then (if (if x.Kind = 0 then noneB c x else metB c x) then 1 else 2) else 0
def VerdictR (c : Case) (x : Claim) : Int × Int := if askedK c (claimOk c x) = 0 then (verdK c x, 0) else (0, askedK c (claimOk c x))
/-! ### What must be wrong -/
def setOf : List Int → Nat
  | [] => 0
  | k :: l => 2 ^ k.toNat ||| setOf l
def leftB (c : Case) (l : List Int) : Bool := canB c (saysK c) anyA (anb (fullK c) (setOf l))
def wrongL (c : Case) : List Int := (needF (leftB c) c.Log.length).getD []
def WrongR (c : Case) : List Int × Int := if okK c then (wrongL c, 0) else ([], 100)
end Go.RS.DC

/- The chapter court, as plain functions (3): what the answers mean. -/
namespace Go.RS.DC
open Go Go.RS
open Go.RS.Enc (enc dec)
def Way (c : Case) (l : List Int) : Prop := l.length = lastN c + 1 ∧ WayA c anyA l
/-- An entry is true of some errors. -/
def HeardT (c : Case) (l : List Int) (x : Entry) : Prop := ∃ (k : Nat) (y : Int), l[k]? = some y ∧ entB c x k y = true
theorem truth_iff {c : Case} {l : List Int} : Truth c l ↔ Way c l ∧ ∀ x ∈ c.Log, HeardT c l x := by
  unfold Truth TruthA Way
  rw [restN_zero, and_assoc]
  refine and_congr_right fun _ => and_congr_right fun _ => ?_
  constructor
  · intro h x hx
    obtain ⟨i, hi, rfl⟩ := List.getElem_of_mem hx
    obtain ⟨k, y, h1, h2⟩ := h i (by unfold fullK; rw [full_bit]; simpa using hi)
    rw [saysK_bit, List.getElem?_eq_getElem hi] at h2
    exact ⟨k, y, h1, h2⟩
  · intro h i hi
    unfold fullK at hi
    rw [full_bit, decide_eq_true_eq] at hi
    obtain ⟨k, y, h1, h2⟩ := h _ (List.getElem_mem hi)
    exact ⟨k, y, h1, by rw [saysK_bit, List.getElem?_eq_getElem hi]; exact h2⟩
theorem path_b {c : Case} {A : Allow} : ∀ {l : List Int} {k : Nat} {x : Int}, PathA c A k x l → ∀ y ∈ l, -30 ≤ y ∧ y ≤ 30
  | [], _, _, _, y, hy => by cases hy
  | z :: l, k, x, ⟨h1, _, h3⟩, y, hy => by
    rcases List.mem_cons.1 hy with rfl | hy
    · have := mem_nextO.1 h1; omega
    · exact path_b h3 y hy
theorem way_b {c : Case} (o : CaseOk c) {A : Allow} {l : List Int} (h : WayA c A l) : ∀ y ∈ l, -30 ≤ y ∧ y ≤ 30 := by
  cases l with
  | nil => exact h.elim
  | cons x l =>
    intro y hy
    rcases List.mem_cons.1 hy with rfl | hy
    · have := mem_offsL.1 h.1
      have := o.f0
      have := o.f2
      omega
    · exact path_b h.2.2 y hy
/-- At a tick a reading is shown. -/
def ShowsT (c : Case) (l : List Int) (t : Int) (r : Reading) : Prop := ∃ y, l[stageN c t]? = some y ∧ 0 ≤ t + y ∧ t + y < allR c.Calendar ∧ localR c.Calendar c.Town (t + y) = r
theorem say_iff {c : Case} (o : CaseOk c) {l : List Int} (w : Way c l) {r : Reading} {a b : Int} : (∃ (k : Nat) (y : Int), l[k]? = some y ∧ sayB c r a b k y = true) ↔ ∃ t, 0 ≤ t ∧ t < allR c.Calendar ∧ a ≤ t ∧ t ≤ b ∧ ShowsT c l t r := by
  have e1 := o.e1
  constructor
  · rintro ⟨k, y, h1, h2⟩
    obtain ⟨_, _, t, g1, g2, g3, g4, g5, g6, g7, g8⟩ := (sayB_iff o _ _ _ _ _).1 h2
    refine ⟨t, g1, g2, g3, g4, y, ?_, g6, g7, g8⟩
    unfold stageN
    rw [g5, Int.toNat_natCast]; exact h1
  · rintro ⟨t, g1, g2, g3, g4, y, h1, g6, g7, g8⟩
    have hb := way_b o w.2 y (List.mem_of_getElem? h1)
    refine ⟨stageN c t, y, h1, (sayB_iff o _ _ _ _ _).2 ⟨hb.1, hb.2, t, g1, g2, g3, g4, ?_, g6, g7, g8⟩⟩
    have := (stage_le o g1 g2).1
    unfold stageN; omega
theorem heard_iff {c : Case} (o : CaseOk c) {l : List Int} (w : Way c l) {x : Entry} : HeardT c l x ↔ ∃ t, 0 ≤ t ∧ t < allR c.Calendar ∧ x.When.Low - x.Late.High ≤ t ∧ t ≤ x.When.High - x.Late.Low ∧ ShowsT c l t x.Reading := say_iff o w
/-! ### Errors, what is shown, when -/
theorem mem_errL {c : Case} (o : CaseOk c) {k : Nat} (hk : k ≤ lastN c) {x : Int} : x ∈ errL c k ↔ ∃ l, Truth c l ∧ l[k]? = some x := by
  unfold errL
  rw [List.mem_filter, mem_offsL, foundB_iff hk]
  constructor
  · exact fun h => h.2
  · rintro ⟨l, h1, h2⟩
    exact ⟨way_b o h1.2.1 _ (List.mem_of_getElem? h2), l, h1, h2⟩
/-! ### Verdicts -/
/-- A claim is true of some errors. -/
def ClaimT (c : Case) (x : Claim) (l : List Int) : Prop :=
  if x.Kind = 0 then ∃ t, x.When.Low ≤ t ∧ t ≤ x.When.High ∧ ShowsT c l t x.Reading
  else ∀ t y, x.When.Low ≤ t → t ≤ x.When.High → l[stageN c t]? = some y → offB x y = false
structure VerdP (c : Case) (x : Claim) (v : Int) : Prop where
  v3 : v = 0 ∨ v = 1 ∨ v = 2
  v0 : v = 0 ↔ ∀ l, Truth c l → ¬ ClaimT c x l
  v2 : v = 2 ↔ (∃ l, Truth c l ∧ ClaimT c x l) ∧ ∀ l, Truth c l → ClaimT c x l
/-! ### Another log -/
def withLog (c : Case) (L : List Entry) : Case := ⟨c.Calendar, c.Town, c.Each, c.Step, c.First, L⟩
/-! ### What must be wrong -/
/-- A case without some entries. -/
def dropL (l : List Int) : Nat → List Entry → List Entry
  | _, [] => []
  | i, x :: r => if (i : Int) ∈ l then dropL l (i + 1) r else x :: dropL l (i + 1) r
def without (c : Case) (l : List Int) : Case := withLog c (dropL l 0 c.Log)
end Go.RS.DC

/- The chapter court, as plain functions (4): what the laws compute. -/
namespace Go.RS.DC
open Go Go.RS
open Go.RS.Enc (enc dec)
def soundK (c : Case) : Int := if okK c then allR c.Calendar else 0
/-! ### What the errors truly were -/
def atR (l : List Int) (n : Int) : Int := if l.length = 0 then 0 else l.getD (n % l.length).toNat 0
/-! ### What is truly shown -/
/-! ### What was heard -/
/-! ### When all that is asked can be told -/
theorem asked_of {c : Case} (h : okK c = true) {l : List Int} (ht : Truth c l) {b : Bool} (hb : b = true) : askedK c b = 0 := by
  unfold askedK
  rw [if_pos h, if_pos hb, if_pos (canK_iff.2 ⟨l, ht⟩)]
theorem asked_false {c : Case} (h : okK c = true) (hn : ∀ l, ¬ Truth c l) {b : Bool} (hb : b = true) : askedK c b = 102 := by
  unfold askedK
  rw [if_pos h, if_pos hb, if_neg (fun hc => by obtain ⟨l, hl⟩ := canK_iff.1 hc; exact hn l hl)]
theorem asked_cases {c : Case} (h : okK c = true) : (∃ l, Truth c l) ∧ (∀ b, b = true → askedK c b = 0) ∨ (∀ l, ¬ Truth c l) ∧ ∀ b, b = true → askedK c b = 102 := by
  by_cases hc : ∃ l, Truth c l
  · obtain ⟨l, hl⟩ := hc
    exact .inl ⟨⟨l, hl⟩, fun b hb => asked_of h hl hb⟩
  · have hn : ∀ l, ¬ Truth c l := fun l hl => hc ⟨l, hl⟩
    exact .inr ⟨hn, fun b hb => asked_false h hn hb⟩
/-! ### Claims -/
theorem errL_sub {c d : Case} (o : CaseOk c) (o' : CaseOk d) (hn : lastN d = lastN c) (h : ∀ l, Truth d l → Truth c l) {k : Nat} (hk : k ≤ lastN c) : ∀ y ∈ errL d k, y ∈ errL c k := fun y hy => by
  obtain ⟨l, h1, h2⟩ := (mem_errL o' (by omega)).1 hy
  exact (mem_errL o hk).2 ⟨l, h l h1, h2⟩
end Go.RS.DC

/- The chapter court, as plain functions (5): the laws. -/
namespace Go.RS.DC
open Go Go.RS
open Go.RS.Enc (enc dec)
theorem err_of {c : Case} (h : okK c = true) {t : Int} (h0 : 0 ≤ t) (h1 : t < allR c.Calendar) : ((∃ l, Truth c l) ∧ ErrorsR c t = (errL c (stageN c t), 0)) ∨ ((∀ l, ¬ Truth c l) ∧ ErrorsR c t = ([], 102)) := by
  have hT : isTickK c t = true := (wi_iff _ _ _).2 ⟨h0, by omega⟩
  rcases asked_cases h with ⟨h2, h3⟩ | ⟨h2, h3⟩
  · left; refine ⟨h2, ?_⟩; unfold ErrorsR; rw [if_pos (h3 _ hT)]
  · right; refine ⟨h2, ?_⟩; unfold ErrorsR; rw [h3 _ hT, if_neg (by decide)]
/-! ### The opposite -/
/-! ### More -/
/-! ### Wider -/
structure WiderK (c d : Case) : Prop where
  cal : d.Calendar = c.Calendar
  town : d.Town = c.Town
  each : d.Each = c.Each
  step : c.Step ≤ d.Step
  f1 : d.First.Low ≤ c.First.Low
  f2 : c.First.High ≤ d.First.High
  log : ∀ e' ∈ d.Log, ∃ e ∈ c.Log, e'.Reading = e.Reading ∧ e'.When.Low - e'.Late.High ≤ e.When.Low - e.Late.High ∧ e.When.High - e.Late.Low ≤ e'.When.High - e'.Late.Low
theorem wider_path {c d : Case} (w : WiderK c d) : ∀ {l : List Int} {k : Nat} {x : Int}, PathA c anyA k x l → PathA d anyA k x l
  | [], _, _, _ => trivial
  | y :: l, k, x, ⟨h1, _, h3⟩ => by
    refine ⟨?_, rfl, wider_path w h3⟩
    have := mem_nextO.1 h1
    have := w.step
    exact mem_nextO.2 (by omega)
theorem wider_truth {c d : Case} (o : CaseOk c) (o' : CaseOk d) (w : WiderK c d) {l : List Int} (h : Truth c l) : Truth d l := by
  have hc : Way c l := ⟨h.1, h.2.1⟩
  have hln : lastN d = lastN c := by unfold lastN; rw [w.cal, w.each]
  have hw : Way d l := by
    refine ⟨by rw [hln]; exact hc.1, ?_⟩
    have := hc.2
    cases l with
    | nil => exact this.elim
    | cons x l =>
      have h1 := mem_offsL.1 this.1
      have := w.f1
      have := w.f2
      exact ⟨mem_offsL.2 (by omega), rfl, wider_path w (hc.2).2.2⟩
  refine truth_iff.2 ⟨hw, fun e' he' => ?_⟩
  obtain ⟨e, he, r1, r2, r3⟩ := w.log e' he'
  obtain ⟨t, g0, g1, g2, g3, y, k1, k2, k3, k4⟩ := (heard_iff o hc).1 ((truth_iff.1 h).2 e he)
  refine (heard_iff o' hw).2 ⟨t, g0, by rw [w.cal]; exact g1, by omega, by omega, y, ?_, k2, by rw [w.cal]; exact k3, by rw [w.cal, w.town, r1]; exact k4⟩
  have : stageN d t = stageN c t := by unfold stageN; rw [w.each]
  rw [this]; exact k1
theorem wider_lawK {c d : Case} (h : okK c = true) (hd : okK d = true) (w : WiderK c d) {t : Int} (h0 : 0 ≤ t) (h1 : t < allR c.Calendar) :
    (ErrorsR c t = ([], 102) ∧ ((ErrorsR d t).2 = 0 ∨ (ErrorsR d t).2 = 102)) ∨ (ErrorsR c t = (errL c (stageN c t), 0) ∧ ErrorsR d t = (errL d (stageN c t), 0) ∧ ∀ y ∈ errL c (stageN c t), y ∈ errL d (stageN c t)) := by
  have o := okK_ok h
  have od := okK_ok hd
  have hs : stageN d t = stageN c t := by unfold stageN; rw [w.each]
  have hln : lastN d = lastN c := by unfold lastN; rw [w.cal, w.each]
  have h1' : t < allR d.Calendar := by rw [w.cal]; exact h1
  rcases err_of h h0 h1 with ⟨⟨p, hp⟩, g⟩ | ⟨_, g⟩
  · right
    have g2 := ((err_of hd h0 h1').resolve_right fun k => k.1 p (wider_truth o od w hp)).2
    rw [hs] at g2
    exact ⟨g, g2, errL_sub od o hln.symm (fun l hl => wider_truth o od w hl) (by have := (stage_le o h0 h1).2; unfold stageN; omega)⟩
  · left
    refine ⟨g, ?_⟩
    rcases err_of hd h0 h1' with ⟨_, k⟩ | ⟨_, k⟩ <;> rw [k]
    · exact .inl rfl
    · exact .inr rfl
/-! ### When -/
/-! ### Stricter -/
/-! ### What must be wrong -/
end Go.RS.DC

