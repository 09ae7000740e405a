/- Kinds of data of the chapter. -/
import Derived.Test.YtenmjloiadkgjaaDoorPvc
set_option linter.all false
namespace Go.RS.DC
open Go Go.RS
open Go.RS.Enc (enc dec)
structure Decree where
  Day : Int
  Plus : Bool
  deriving DecidableEq
instance elDecree : El Decree where
  sz := 2
  cells x := [enc x.Day, enc x.Plus]
  un cs := match cs with | [v0, v1] => (dec v0).bind fun a0 => (dec v1).bind fun a1 => some ⟨a0, a1⟩ | _ => none
  len _ := rfl
  un_le := by
    intro cs a h
    split at h
    · simp only [Option.bind_eq_some_iff, Option.some.injEq] at h
      obtain ⟨x0, h0, x1, h1, rfl⟩ := h
      exact ⟨Enc.dec_le h0, Enc.dec_le h1, trivial⟩
    · cases h
  un_cells x := by simp only [Enc.dec_enc, Option.bind_some]
  isF x := by simp only [PV.isFL, Bool.and_eq_true, and_true]; exact ⟨rfl, rfl⟩
instance encDecree : Enc Decree := encOfEl Decree
@[simp] theorem sz_Decree : El.sz Decree = 2 := rfl
@[simp] theorem cells_Decree (x : Decree) : El.cells x = [enc x.Day, enc x.Plus] := rfl
@[simp] theorem enc_Decree (x : Decree) : enc x = PV.agg [enc x.Day, enc x.Plus] := rfl
@[simp] theorem dec_Decree (v0 v1 : PV) : (dec (PV.agg [v0, v1]) : Option Decree) = (dec v0).bind fun a0 => (dec v1).bind fun a1 => some ⟨a0, a1⟩ := rfl
@[simp] theorem eta_Decree (x : Decree) : (Decree.mk x.Day x.Plus) = x := rfl
@[simp] theorem decl_Decree (ex : Bool) (q : Nat) (l : List Decree) (h : q = l.length) : (dec (PV.lst ex q 2 (encL l)) : Option (List Decree)) = some l := by subst h; exact dec_lst ex l
theorem get_Decree (l : List Decree) (k : Nat) (h : k < l.length) : List.drop (k * 2) (encL l) = [enc l[k].Day, enc l[k].Plus] ++ encL (l.drop (k + 1)) := encL_get l k h
theorem take_Decree (l : List Decree) (k : Nat) : List.take (k * 2) (encL l) = encL (l.take k) := encL_take l k
theorem drop_Decree (l : List Decree) (k : Nat) : List.drop (k * 2) (encL l) = encL (l.drop k) := encL_drop l k
theorem snoc_Decree (l : List Decree) (x : Decree) : encL l ++ [enc x.Day, enc x.Plus] = encL (l ++ [x]) := encL_snoc l x
@[simp] theorem decf_Decree (M : VM) (t : Nat) (out : List Decree) (h : M[t]? = some (.vec (encL out))) : (dec (fzSl M t (out.length * 2) 0 out.length (openCap + 2) 2) : Option (List Decree)) = some out := dec_fzSl M t out h (by decide)
@[simp] theorem lef_Decree (M : VM) (t : Nat) (out : List Decree) (h : M[t]? = some (.vec (encL out))) : (fzSl M t (out.length * 2) 0 out.length (openCap + 2) 2).le (.lst false out.length 2 (encL out)) = True := le_fzSl M t out h (by decide)
theorem app_Decree (M : VM) (t bytes : Nat) (out : List Decree) (x : Decree) (h : M[t]? = some (.vec (encL out))) (hf : fits (out.length + 1) bytes = true) :
    appendV M 2 bytes (.sl t (out.length * 2) 0 out.length (openCap + 2) 2) (.lst true 1 2 [PV.int .i64 x.Day, PV.bool x.Plus]) = some (.sl t ((out.length + 1) * 2) 0 (out.length + 1) (openCap + 2) 2, M.set t (.vec (encL (out ++ [x])))) := append_one M t bytes out x h (by decide) hf rfl
theorem beq_Decree (x y : Decree) : (x.Day == y.Day && (x.Plus == y.Plus)) = decide (x = y) := by
  rw [Bool.eq_iff_iff]
  constructor
  · intro h
    simp only [Bool.and_eq_true, beq_iff_eq] at h
    obtain ⟨h0, h1⟩ := h
    rw [decide_eq_true_eq, ← eta_Decree x, ← eta_Decree y, h0, h1]
  · intro h
    rw [decide_eq_true_eq] at h; subst h; simp

structure Cal where
  Hours : Int
  Minutes : Int
  Seconds : Int
  Days : Int
  Decrees : (List Decree)
  deriving DecidableEq
instance elCal : El Cal where
  sz := 5
  cells x := [enc x.Hours, enc x.Minutes, enc x.Seconds, enc x.Days, enc x.Decrees]
  un cs := match cs with | [v0, v1, v2, v3, v4] => (dec v0).bind fun a0 => (dec v1).bind fun a1 => (dec v2).bind fun a2 => (dec v3).bind fun a3 => (dec v4).bind fun a4 => some ⟨a0, a1, a2, a3, a4⟩ | _ => none
  len _ := rfl
  un_le := by
    intro cs a h
    split at h
    · simp only [Option.bind_eq_some_iff, Option.some.injEq] at h
      obtain ⟨x0, h0, x1, h1, x2, h2, x3, h3, x4, h4, rfl⟩ := h
      exact ⟨Enc.dec_le h0, Enc.dec_le h1, Enc.dec_le h2, Enc.dec_le h3, Enc.dec_le h4, trivial⟩
    · cases h
  un_cells x := by simp only [Enc.dec_enc, Option.bind_some]
  isF x := by simp only [PV.isFL, Bool.and_eq_true, and_true]; exact ⟨rfl, rfl, rfl, rfl, rfl⟩
instance encCal : Enc Cal := encOfEl Cal
@[simp] theorem sz_Cal : El.sz Cal = 5 := rfl
@[simp] theorem cells_Cal (x : Cal) : El.cells x = [enc x.Hours, enc x.Minutes, enc x.Seconds, enc x.Days, enc x.Decrees] := rfl
@[simp] theorem enc_Cal (x : Cal) : enc x = PV.agg [enc x.Hours, enc x.Minutes, enc x.Seconds, enc x.Days, enc x.Decrees] := rfl
@[simp] theorem dec_Cal (v0 v1 v2 v3 v4 : PV) : (dec (PV.agg [v0, v1, v2, v3, v4]) : Option Cal) = (dec v0).bind fun a0 => (dec v1).bind fun a1 => (dec v2).bind fun a2 => (dec v3).bind fun a3 => (dec v4).bind fun a4 => some ⟨a0, a1, a2, a3, a4⟩ := rfl
@[simp] theorem eta_Cal (x : Cal) : (Cal.mk x.Hours x.Minutes x.Seconds x.Days x.Decrees) = x := rfl
@[simp] theorem decl_Cal (ex : Bool) (q : Nat) (l : List Cal) (h : q = l.length) : (dec (PV.lst ex q 5 (encL l)) : Option (List Cal)) = some l := by subst h; exact dec_lst ex l
theorem get_Cal (l : List Cal) (k : Nat) (h : k < l.length) : List.drop (k * 5) (encL l) = [enc l[k].Hours, enc l[k].Minutes, enc l[k].Seconds, enc l[k].Days, enc l[k].Decrees] ++ encL (l.drop (k + 1)) := encL_get l k h
theorem take_Cal (l : List Cal) (k : Nat) : List.take (k * 5) (encL l) = encL (l.take k) := encL_take l k
theorem drop_Cal (l : List Cal) (k : Nat) : List.drop (k * 5) (encL l) = encL (l.drop k) := encL_drop l k
theorem snoc_Cal (l : List Cal) (x : Cal) : encL l ++ [enc x.Hours, enc x.Minutes, enc x.Seconds, enc x.Days, enc x.Decrees] = encL (l ++ [x]) := encL_snoc l x
@[simp] theorem decf_Cal (M : VM) (t : Nat) (out : List Cal) (h : M[t]? = some (.vec (encL out))) : (dec (fzSl M t (out.length * 5) 0 out.length (openCap + 5) 5) : Option (List Cal)) = some out := dec_fzSl M t out h (by decide)
@[simp] theorem lef_Cal (M : VM) (t : Nat) (out : List Cal) (h : M[t]? = some (.vec (encL out))) : (fzSl M t (out.length * 5) 0 out.length (openCap + 5) 5).le (.lst false out.length 5 (encL out)) = True := le_fzSl M t out h (by decide)
theorem app_Cal (M : VM) (t bytes : Nat) (out : List Cal) (x : Cal) (h : M[t]? = some (.vec (encL out))) (hf : fits (out.length + 1) bytes = true) :
    appendV M 5 bytes (.sl t (out.length * 5) 0 out.length (openCap + 5) 5) (.lst true 1 5 [PV.int .i64 x.Hours, PV.int .i64 x.Minutes, PV.int .i64 x.Seconds, PV.int .i64 x.Days, PV.lst false (x.Decrees).length 2 (encL x.Decrees)]) = some (.sl t ((out.length + 1) * 5) 0 (out.length + 1) (openCap + 5) 5, M.set t (.vec (encL (out ++ [x])))) := append_one M t bytes out x h (by decide) hf rfl

structure Reading where
  Day : Int
  Hour : Int
  Minute : Int
  Second : Int
  deriving DecidableEq
instance elReading : El Reading where
  sz := 4
  cells x := [enc x.Day, enc x.Hour, enc x.Minute, enc x.Second]
  un cs := match cs with | [v0, v1, v2, v3] => (dec v0).bind fun a0 => (dec v1).bind fun a1 => (dec v2).bind fun a2 => (dec v3).bind fun a3 => some ⟨a0, a1, a2, a3⟩ | _ => none
  len _ := rfl
  un_le := by
    intro cs a h
    split at h
    · simp only [Option.bind_eq_some_iff, Option.some.injEq] at h
      obtain ⟨x0, h0, x1, h1, x2, h2, x3, h3, rfl⟩ := h
      exact ⟨Enc.dec_le h0, Enc.dec_le h1, Enc.dec_le h2, Enc.dec_le h3, trivial⟩
    · cases h
  un_cells x := by simp only [Enc.dec_enc, Option.bind_some]
  isF x := by simp only [PV.isFL, Bool.and_eq_true, and_true]; exact ⟨rfl, rfl, rfl, rfl⟩
instance encReading : Enc Reading := encOfEl Reading
@[simp] theorem sz_Reading : El.sz Reading = 4 := rfl
@[simp] theorem cells_Reading (x : Reading) : El.cells x = [enc x.Day, enc x.Hour, enc x.Minute, enc x.Second] := rfl
@[simp] theorem enc_Reading (x : Reading) : enc x = PV.agg [enc x.Day, enc x.Hour, enc x.Minute, enc x.Second] := rfl
@[simp] theorem dec_Reading (v0 v1 v2 v3 : PV) : (dec (PV.agg [v0, v1, v2, v3]) : Option Reading) = (dec v0).bind fun a0 => (dec v1).bind fun a1 => (dec v2).bind fun a2 => (dec v3).bind fun a3 => some ⟨a0, a1, a2, a3⟩ := rfl
@[simp] theorem eta_Reading (x : Reading) : (Reading.mk x.Day x.Hour x.Minute x.Second) = x := rfl
@[simp] theorem decl_Reading (ex : Bool) (q : Nat) (l : List Reading) (h : q = l.length) : (dec (PV.lst ex q 4 (encL l)) : Option (List Reading)) = some l := by subst h; exact dec_lst ex l
theorem get_Reading (l : List Reading) (k : Nat) (h : k < l.length) : List.drop (k * 4) (encL l) = [enc l[k].Day, enc l[k].Hour, enc l[k].Minute, enc l[k].Second] ++ encL (l.drop (k + 1)) := encL_get l k h
theorem take_Reading (l : List Reading) (k : Nat) : List.take (k * 4) (encL l) = encL (l.take k) := encL_take l k
theorem drop_Reading (l : List Reading) (k : Nat) : List.drop (k * 4) (encL l) = encL (l.drop k) := encL_drop l k
theorem snoc_Reading (l : List Reading) (x : Reading) : encL l ++ [enc x.Day, enc x.Hour, enc x.Minute, enc x.Second] = encL (l ++ [x]) := encL_snoc l x
@[simp] theorem decf_Reading (M : VM) (t : Nat) (out : List Reading) (h : M[t]? = some (.vec (encL out))) : (dec (fzSl M t (out.length * 4) 0 out.length (openCap + 4) 4) : Option (List Reading)) = some out := dec_fzSl M t out h (by decide)
@[simp] theorem lef_Reading (M : VM) (t : Nat) (out : List Reading) (h : M[t]? = some (.vec (encL out))) : (fzSl M t (out.length * 4) 0 out.length (openCap + 4) 4).le (.lst false out.length 4 (encL out)) = True := le_fzSl M t out h (by decide)
theorem app_Reading (M : VM) (t bytes : Nat) (out : List Reading) (x : Reading) (h : M[t]? = some (.vec (encL out))) (hf : fits (out.length + 1) bytes = true) :
    appendV M 4 bytes (.sl t (out.length * 4) 0 out.length (openCap + 4) 4) (.lst true 1 4 [PV.int .i64 x.Day, PV.int .i64 x.Hour, PV.int .i64 x.Minute, PV.int .i64 x.Second]) = some (.sl t ((out.length + 1) * 4) 0 (out.length + 1) (openCap + 4) 4, M.set t (.vec (encL (out ++ [x])))) := append_one M t bytes out x h (by decide) hf rfl
theorem beq_Reading (x y : Reading) : (x.Day == y.Day && (x.Hour == y.Hour && (x.Minute == y.Minute && (x.Second == y.Second)))) = decide (x = y) := by
  rw [Bool.eq_iff_iff]
  constructor
  · intro h
    simp only [Bool.and_eq_true, beq_iff_eq] at h
    obtain ⟨h0, h1, h2, h3⟩ := h
    rw [decide_eq_true_eq, ← eta_Reading x, ← eta_Reading y, h0, h1, h2, h3]
  · intro h
    rw [decide_eq_true_eq] at h; subst h; simp

structure Change where
  Tick : Int
  Ahead : Int
  deriving DecidableEq
instance elChange : El Change where
  sz := 2
  cells x := [enc x.Tick, enc x.Ahead]
  un cs := match cs with | [v0, v1] => (dec v0).bind fun a0 => (dec v1).bind fun a1 => some ⟨a0, a1⟩ | _ => none
  len _ := rfl
  un_le := by
    intro cs a h
    split at h
    · simp only [Option.bind_eq_some_iff, Option.some.injEq] at h
      obtain ⟨x0, h0, x1, h1, rfl⟩ := h
      exact ⟨Enc.dec_le h0, Enc.dec_le h1, trivial⟩
    · cases h
  un_cells x := by simp only [Enc.dec_enc, Option.bind_some]
  isF x := by simp only [PV.isFL, Bool.and_eq_true, and_true]; exact ⟨rfl, rfl⟩
instance encChange : Enc Change := encOfEl Change
@[simp] theorem sz_Change : El.sz Change = 2 := rfl
@[simp] theorem cells_Change (x : Change) : El.cells x = [enc x.Tick, enc x.Ahead] := rfl
@[simp] theorem enc_Change (x : Change) : enc x = PV.agg [enc x.Tick, enc x.Ahead] := rfl
@[simp] theorem dec_Change (v0 v1 : PV) : (dec (PV.agg [v0, v1]) : Option Change) = (dec v0).bind fun a0 => (dec v1).bind fun a1 => some ⟨a0, a1⟩ := rfl
@[simp] theorem eta_Change (x : Change) : (Change.mk x.Tick x.Ahead) = x := rfl
@[simp] theorem decl_Change (ex : Bool) (q : Nat) (l : List Change) (h : q = l.length) : (dec (PV.lst ex q 2 (encL l)) : Option (List Change)) = some l := by subst h; exact dec_lst ex l
theorem get_Change (l : List Change) (k : Nat) (h : k < l.length) : List.drop (k * 2) (encL l) = [enc l[k].Tick, enc l[k].Ahead] ++ encL (l.drop (k + 1)) := encL_get l k h
theorem take_Change (l : List Change) (k : Nat) : List.take (k * 2) (encL l) = encL (l.take k) := encL_take l k
theorem drop_Change (l : List Change) (k : Nat) : List.drop (k * 2) (encL l) = encL (l.drop k) := encL_drop l k
theorem snoc_Change (l : List Change) (x : Change) : encL l ++ [enc x.Tick, enc x.Ahead] = encL (l ++ [x]) := encL_snoc l x
@[simp] theorem decf_Change (M : VM) (t : Nat) (out : List Change) (h : M[t]? = some (.vec (encL out))) : (dec (fzSl M t (out.length * 2) 0 out.length (openCap + 2) 2) : Option (List Change)) = some out := dec_fzSl M t out h (by decide)
@[simp] theorem lef_Change (M : VM) (t : Nat) (out : List Change) (h : M[t]? = some (.vec (encL out))) : (fzSl M t (out.length * 2) 0 out.length (openCap + 2) 2).le (.lst false out.length 2 (encL out)) = True := le_fzSl M t out h (by decide)
theorem app_Change (M : VM) (t bytes : Nat) (out : List Change) (x : Change) (h : M[t]? = some (.vec (encL out))) (hf : fits (out.length + 1) bytes = true) :
    appendV M 2 bytes (.sl t (out.length * 2) 0 out.length (openCap + 2) 2) (.lst true 1 2 [PV.int .i64 x.Tick, PV.int .i64 x.Ahead]) = some (.sl t ((out.length + 1) * 2) 0 (out.length + 1) (openCap + 2) 2, M.set t (.vec (encL (out ++ [x])))) := append_one M t bytes out x h (by decide) hf rfl
theorem beq_Change (x y : Change) : (x.Tick == y.Tick && (x.Ahead == y.Ahead)) = decide (x = y) := by
  rw [Bool.eq_iff_iff]
  constructor
  · intro h
    simp only [Bool.and_eq_true, beq_iff_eq] at h
    obtain ⟨h0, h1⟩ := h
    rw [decide_eq_true_eq, ← eta_Change x, ← eta_Change y, h0, h1]
  · intro h
    rw [decide_eq_true_eq] at h; subst h; simp

structure Town where
  Ahead : Int
  Changes : (List Change)
  deriving DecidableEq
instance elTown : El Town where
  sz := 2
  cells x := [enc x.Ahead, enc x.Changes]
  un cs := match cs with | [v0, v1] => (dec v0).bind fun a0 => (dec v1).bind fun a1 => some ⟨a0, a1⟩ | _ => none
  len _ := rfl
  un_le := by
    intro cs a h
    split at h
    · simp only [Option.bind_eq_some_iff, Option.some.injEq] at h
      obtain ⟨x0, h0, x1, h1, rfl⟩ := h
      exact ⟨Enc.dec_le h0, Enc.dec_le h1, trivial⟩
    · cases h
  un_cells x := by simp only [Enc.dec_enc, Option.bind_some]
  isF x := by simp only [PV.isFL, Bool.and_eq_true, and_true]; exact ⟨rfl, rfl⟩
instance encTown : Enc Town := encOfEl Town
@[simp] theorem sz_Town : El.sz Town = 2 := rfl
@[simp] theorem cells_Town (x : Town) : El.cells x = [enc x.Ahead, enc x.Changes] := rfl
@[simp] theorem enc_Town (x : Town) : enc x = PV.agg [enc x.Ahead, enc x.Changes] := rfl
@[simp] theorem dec_Town (v0 v1 : PV) : (dec (PV.agg [v0, v1]) : Option Town) = (dec v0).bind fun a0 => (dec v1).bind fun a1 => some ⟨a0, a1⟩ := rfl
@[simp] theorem eta_Town (x : Town) : (Town.mk x.Ahead x.Changes) = x := rfl
@[simp] theorem decl_Town (ex : Bool) (q : Nat) (l : List Town) (h : q = l.length) : (dec (PV.lst ex q 2 (encL l)) : Option (List Town)) = some l := by subst h; exact dec_lst ex l
theorem get_Town (l : List Town) (k : Nat) (h : k < l.length) : List.drop (k * 2) (encL l) = [enc l[k].Ahead, enc l[k].Changes] ++ encL (l.drop (k + 1)) := encL_get l k h
theorem take_Town (l : List Town) (k : Nat) : List.take (k * 2) (encL l) = encL (l.take k) := encL_take l k
theorem drop_Town (l : List Town) (k : Nat) : List.drop (k * 2) (encL l) = encL (l.drop k) := encL_drop l k
theorem snoc_Town (l : List Town) (x : Town) : encL l ++ [enc x.Ahead, enc x.Changes] = encL (l ++ [x]) := encL_snoc l x
@[simp] theorem decf_Town (M : VM) (t : Nat) (out : List Town) (h : M[t]? = some (.vec (encL out))) : (dec (fzSl M t (out.length * 2) 0 out.length (openCap + 2) 2) : Option (List Town)) = some out := dec_fzSl M t out h (by decide)
@[simp] theorem lef_Town (M : VM) (t : Nat) (out : List Town) (h : M[t]? = some (.vec (encL out))) : (fzSl M t (out.length * 2) 0 out.length (openCap + 2) 2).le (.lst false out.length 2 (encL out)) = True := le_fzSl M t out h (by decide)
theorem app_Town (M : VM) (t bytes : Nat) (out : List Town) (x : Town) (h : M[t]? = some (.vec (encL out))) (hf : fits (out.length + 1) bytes = true) :
    appendV M 2 bytes (.sl t (out.length * 2) 0 out.length (openCap + 2) 2) (.lst true 1 2 [PV.int .i64 x.Ahead, PV.lst false (x.Changes).length 2 (encL x.Changes)]) = some (.sl t ((out.length + 1) * 2) 0 (out.length + 1) (openCap + 2) 2, M.set t (.vec (encL (out ++ [x])))) := append_one M t bytes out x h (by decide) hf rfl

structure TownC where
  C : Cal
  T : Town
  deriving DecidableEq
instance elTownC : El TownC where
  sz := 7
  cells x := [enc x.C.Hours, enc x.C.Minutes, enc x.C.Seconds, enc x.C.Days, enc x.C.Decrees, enc x.T.Ahead, enc x.T.Changes]
  un cs := match cs with | [v0, v1, v2, v3, v4, v5, v6] => (dec v0).bind fun a0 => (dec v1).bind fun a1 => (dec v2).bind fun a2 => (dec v3).bind fun a3 => (dec v4).bind fun a4 => (dec v5).bind fun a5 => (dec v6).bind fun a6 => some ⟨⟨a0, a1, a2, a3, a4⟩, ⟨a5, a6⟩⟩ | _ => none
  len _ := rfl
  un_le := by
    intro cs a h
    split at h
    · simp only [Option.bind_eq_some_iff, Option.some.injEq] at h
      obtain ⟨x0, h0, x1, h1, x2, h2, x3, h3, x4, h4, x5, h5, x6, h6, rfl⟩ := h
      exact ⟨Enc.dec_le h0, Enc.dec_le h1, Enc.dec_le h2, Enc.dec_le h3, Enc.dec_le h4, Enc.dec_le h5, Enc.dec_le h6, trivial⟩
    · cases h
  un_cells x := by simp only [Enc.dec_enc, Option.bind_some]
  isF x := by simp only [PV.isFL, Bool.and_eq_true, and_true]; exact ⟨rfl, rfl, rfl, rfl, rfl, rfl, rfl⟩
instance encTownC : Enc TownC := encOfEl TownC
@[simp] theorem sz_TownC : El.sz TownC = 7 := rfl
@[simp] theorem cells_TownC (x : TownC) : El.cells x = [enc x.C.Hours, enc x.C.Minutes, enc x.C.Seconds, enc x.C.Days, enc x.C.Decrees, enc x.T.Ahead, enc x.T.Changes] := rfl
@[simp] theorem enc_TownC (x : TownC) : enc x = PV.agg [enc x.C.Hours, enc x.C.Minutes, enc x.C.Seconds, enc x.C.Days, enc x.C.Decrees, enc x.T.Ahead, enc x.T.Changes] := rfl
@[simp] theorem dec_TownC (v0 v1 v2 v3 v4 v5 v6 : PV) : (dec (PV.agg [v0, v1, v2, v3, v4, v5, v6]) : Option TownC) = (dec v0).bind fun a0 => (dec v1).bind fun a1 => (dec v2).bind fun a2 => (dec v3).bind fun a3 => (dec v4).bind fun a4 => (dec v5).bind fun a5 => (dec v6).bind fun a6 => some ⟨⟨a0, a1, a2, a3, a4⟩, ⟨a5, a6⟩⟩ := rfl
@[simp] theorem eta_TownC (x : TownC) : (TownC.mk (Cal.mk x.C.Hours x.C.Minutes x.C.Seconds x.C.Days x.C.Decrees) (Town.mk x.T.Ahead x.T.Changes)) = x := rfl
@[simp] theorem decl_TownC (ex : Bool) (q : Nat) (l : List TownC) (h : q = l.length) : (dec (PV.lst ex q 7 (encL l)) : Option (List TownC)) = some l := by subst h; exact dec_lst ex l
theorem get_TownC (l : List TownC) (k : Nat) (h : k < l.length) : List.drop (k * 7) (encL l) = [enc l[k].C.Hours, enc l[k].C.Minutes, enc l[k].C.Seconds, enc l[k].C.Days, enc l[k].C.Decrees, enc l[k].T.Ahead, enc l[k].T.Changes] ++ encL (l.drop (k + 1)) := encL_get l k h
theorem take_TownC (l : List TownC) (k : Nat) : List.take (k * 7) (encL l) = encL (l.take k) := encL_take l k
theorem drop_TownC (l : List TownC) (k : Nat) : List.drop (k * 7) (encL l) = encL (l.drop k) := encL_drop l k
theorem snoc_TownC (l : List TownC) (x : TownC) : encL l ++ [enc x.C.Hours, enc x.C.Minutes, enc x.C.Seconds, enc x.C.Days, enc x.C.Decrees, enc x.T.Ahead, enc x.T.Changes] = encL (l ++ [x]) := encL_snoc l x
@[simp] theorem decf_TownC (M : VM) (t : Nat) (out : List TownC) (h : M[t]? = some (.vec (encL out))) : (dec (fzSl M t (out.length * 7) 0 out.length (openCap + 7) 7) : Option (List TownC)) = some out := dec_fzSl M t out h (by decide)
@[simp] theorem lef_TownC (M : VM) (t : Nat) (out : List TownC) (h : M[t]? = some (.vec (encL out))) : (fzSl M t (out.length * 7) 0 out.length (openCap + 7) 7).le (.lst false out.length 7 (encL out)) = True := le_fzSl M t out h (by decide)
theorem app_TownC (M : VM) (t bytes : Nat) (out : List TownC) (x : TownC) (h : M[t]? = some (.vec (encL out))) (hf : fits (out.length + 1) bytes = true) :
    appendV M 7 bytes (.sl t (out.length * 7) 0 out.length (openCap + 7) 7) (.lst true 1 7 [PV.int .i64 x.C.Hours, PV.int .i64 x.C.Minutes, PV.int .i64 x.C.Seconds, PV.int .i64 x.C.Days, PV.lst false (x.C.Decrees).length 2 (encL x.C.Decrees), PV.int .i64 x.T.Ahead, PV.lst false (x.T.Changes).length 2 (encL x.T.Changes)]) = some (.sl t ((out.length + 1) * 7) 0 (out.length + 1) (openCap + 7) 7, M.set t (.vec (encL (out ++ [x])))) := append_one M t bytes out x h (by decide) hf rfl

structure Span where
  Low : Int
  High : Int
  deriving DecidableEq
instance elSpan : El Span where
  sz := 2
  cells x := [enc x.Low, enc x.High]
  un cs := match cs with | [v0, v1] => (dec v0).bind fun a0 => (dec v1).bind fun a1 => some ⟨a0, a1⟩ | _ => none
  len _ := rfl
  un_le := by
    intro cs a h
    split at h
    · simp only [Option.bind_eq_some_iff, Option.some.injEq] at h
      obtain ⟨x0, h0, x1, h1, rfl⟩ := h
      exact ⟨Enc.dec_le h0, Enc.dec_le h1, trivial⟩
    · cases h
  un_cells x := by simp only [Enc.dec_enc, Option.bind_some]
  isF x := by simp only [PV.isFL, Bool.and_eq_true, and_true]; exact ⟨rfl, rfl⟩
instance encSpan : Enc Span := encOfEl Span
@[simp] theorem sz_Span : El.sz Span = 2 := rfl
@[simp] theorem cells_Span (x : Span) : El.cells x = [enc x.Low, enc x.High] := rfl
@[simp] theorem enc_Span (x : Span) : enc x = PV.agg [enc x.Low, enc x.High] := rfl
@[simp] theorem dec_Span (v0 v1 : PV) : (dec (PV.agg [v0, v1]) : Option Span) = (dec v0).bind fun a0 => (dec v1).bind fun a1 => some ⟨a0, a1⟩ := rfl
@[simp] theorem eta_Span (x : Span) : (Span.mk x.Low x.High) = x := rfl
@[simp] theorem decl_Span (ex : Bool) (q : Nat) (l : List Span) (h : q = l.length) : (dec (PV.lst ex q 2 (encL l)) : Option (List Span)) = some l := by subst h; exact dec_lst ex l
theorem get_Span (l : List Span) (k : Nat) (h : k < l.length) : List.drop (k * 2) (encL l) = [enc l[k].Low, enc l[k].High] ++ encL (l.drop (k + 1)) := encL_get l k h
theorem take_Span (l : List Span) (k : Nat) : List.take (k * 2) (encL l) = encL (l.take k) := encL_take l k
theorem drop_Span (l : List Span) (k : Nat) : List.drop (k * 2) (encL l) = encL (l.drop k) := encL_drop l k
theorem snoc_Span (l : List Span) (x : Span) : encL l ++ [enc x.Low, enc x.High] = encL (l ++ [x]) := encL_snoc l x
@[simp] theorem decf_Span (M : VM) (t : Nat) (out : List Span) (h : M[t]? = some (.vec (encL out))) : (dec (fzSl M t (out.length * 2) 0 out.length (openCap + 2) 2) : Option (List Span)) = some out := dec_fzSl M t out h (by decide)
@[simp] theorem lef_Span (M : VM) (t : Nat) (out : List Span) (h : M[t]? = some (.vec (encL out))) : (fzSl M t (out.length * 2) 0 out.length (openCap + 2) 2).le (.lst false out.length 2 (encL out)) = True := le_fzSl M t out h (by decide)
theorem app_Span (M : VM) (t bytes : Nat) (out : List Span) (x : Span) (h : M[t]? = some (.vec (encL out))) (hf : fits (out.length + 1) bytes = true) :
    appendV M 2 bytes (.sl t (out.length * 2) 0 out.length (openCap + 2) 2) (.lst true 1 2 [PV.int .i64 x.Low, PV.int .i64 x.High]) = some (.sl t ((out.length + 1) * 2) 0 (out.length + 1) (openCap + 2) 2, M.set t (.vec (encL (out ++ [x])))) := append_one M t bytes out x h (by decide) hf rfl
theorem beq_Span (x y : Span) : (x.Low == y.Low && (x.High == y.High)) = decide (x = y) := by
  rw [Bool.eq_iff_iff]
  constructor
  · intro h
    simp only [Bool.and_eq_true, beq_iff_eq] at h
    obtain ⟨h0, h1⟩ := h
    rw [decide_eq_true_eq, ← eta_Span x, ← eta_Span y, h0, h1]
  · intro h
    rw [decide_eq_true_eq] at h; subst h; simp

end Go.RS.DC

/- The chapter, as plain functions (1): calendars, ticks and readings. -/
namespace Go.RS.DC
open Go Go.RS
open Go.RS.Enc (enc dec)
def wi (n a b : Int) : Bool := decide (a ≤ n) && decide (n ≤ b)
theorem wi_iff (n a b : Int) : wi n a b = true ↔ a ≤ n ∧ n ≤ b := by simp [wi]
def moreR : List Decree → Int → Int
  | [], _ => 0
  | x :: r, d => (if x.Day = d then (if x.Plus then 1 else -1) else 0) + moreR r d
def lenR (c : Cal) (d : Int) : Int := c.Hours * c.Minutes * c.Seconds + moreR c.Decrees d
def begR (c : Cal) : Nat → Int
  | 0 => 0
  | d + 1 => begR c d + lenR c d
def allR (c : Cal) : Int := begR c c.Days.toNat
def climbD (n : Int) : Int → List Decree → Bool
  | _, [] => true
  | least, x :: r => wi x.Day least (n - 1) && climbD n (x.Day + 1) r
def headC (c : Cal) : Bool := wi c.Hours 1 24 && wi c.Minutes 1 60 && wi c.Seconds 2 60 && wi c.Days 1 10 && decide (c.Decrees.length ≤ 10)
def okC (c : Cal) : Bool := headC c && climbD c.Days 0 c.Decrees
theorem more_least (n : Int) : ∀ (l : List Decree) (least d : Int), climbD n least l = true → d < least → moreR l d = 0
  | [], _, _, _, _ => rfl
  | x :: r, least, d, h, hd => by
    simp only [climbD, Bool.and_eq_true, wi_iff] at h
    rw [moreR, if_neg (by omega), more_least n r (x.Day + 1) d h.2 (by omega)]; rfl
theorem more_b (n : Int) : ∀ (l : List Decree) (least d : Int), climbD n least l = true → -1 ≤ moreR l d ∧ moreR l d ≤ 1
  | [], _, _, _ => by simp [moreR]
  | x :: r, least, d, h => by
    simp only [climbD, Bool.and_eq_true, wi_iff] at h
    rw [moreR]
    by_cases hx : x.Day = d
    · rw [if_pos hx, more_least n r (x.Day + 1) d h.2 (by omega)]
      split <;> omega
    · rw [if_neg hx]
      have := more_b n r (x.Day + 1) d h.2
      omega
structure CalOk (c : Cal) : Prop where
  h1 : 1 ≤ c.Hours
  h2 : c.Hours ≤ 24
  m1 : 1 ≤ c.Minutes
  m2 : c.Minutes ≤ 60
  s1 : 2 ≤ c.Seconds
  s2 : c.Seconds ≤ 60
  d1 : 1 ≤ c.Days
  d2 : c.Days ≤ 10
  dl : c.Decrees.length ≤ 10
  cl : climbD c.Days 0 c.Decrees = true
  hm1 : 1 ≤ c.Hours * c.Minutes
  hm2 : c.Hours * c.Minutes ≤ 1440
  w1 : c.Hours * c.Minutes * c.Seconds = (c.Hours * c.Minutes - 1) * c.Seconds + c.Seconds
  w2 : 0 ≤ (c.Hours * c.Minutes - 1) * c.Seconds
  w3 : c.Hours * c.Minutes * c.Seconds ≤ 86400
  mb : ∀ d, -1 ≤ moreR c.Decrees d ∧ moreR c.Decrees d ≤ 1
  lb : ∀ d, 1 ≤ lenR c d ∧ lenR c d ≤ 86401
theorem okC_ok {c : Cal} (h : okC c = true) : CalOk c := by
  simp only [okC, headC, Bool.and_eq_true, wi_iff, decide_eq_true_eq] at h
  obtain ⟨⟨⟨⟨⟨⟨h1, h2⟩, ⟨m1, m2⟩⟩, ⟨s1, s2⟩⟩, ⟨d1, d2⟩⟩, dl⟩, cl⟩ := h
  have hm1 : 1 * 1 ≤ c.Hours * c.Minutes := Int.mul_le_mul (by omega) (by omega) (by omega) (by omega)
  have hm2 : c.Hours * c.Minutes ≤ 24 * 60 := Int.mul_le_mul (by omega) (by omega) (by omega) (by omega)
  have w2 : 0 ≤ (c.Hours * c.Minutes - 1) * c.Seconds := Int.mul_nonneg (by omega) (by omega)
  have w1 : c.Hours * c.Minutes * c.Seconds = (c.Hours * c.Minutes - 1) * c.Seconds + c.Seconds := by rw [Int.sub_mul]; omega
  have w3 : c.Hours * c.Minutes * c.Seconds ≤ 1440 * 60 := Int.mul_le_mul (by omega) (by omega) (by omega) (by omega)
  have mb : ∀ d, -1 ≤ moreR c.Decrees d ∧ moreR c.Decrees d ≤ 1 := fun d => more_b _ _ _ d cl
  refine ⟨h1, h2, m1, m2, s1, s2, d1, d2, dl, cl, by omega, by omega, w1, w2, by omega, mb, fun d => ?_⟩
  have := mb d
  unfold lenR
  omega
theorem begR_lt {c : Cal} (o : CalOk c) (d : Nat) : begR c d < begR c (d + 1) := by
  rw [begR]; have := o.lb d; omega
theorem begR_mono {c : Cal} (o : CalOk c) {d e : Nat} (h : d ≤ e) : begR c d ≤ begR c e := by
  induction e with
  | zero => obtain rfl : d = 0 := by omega
            exact Int.le_refl _
  | succ e ih =>
    by_cases hd : d = e + 1
    · subst hd; exact Int.le_refl _
    · have := ih (by omega); have := begR_lt o e; omega
theorem begR_b {c : Cal} (o : CalOk c) : ∀ d : Nat, 0 ≤ begR c d ∧ begR c d ≤ d * 86401
  | 0 => by simp [begR]
  | d + 1 => by
    rw [begR]
    have := begR_b o d
    have := o.lb d
    omega
theorem allR_b {c : Cal} (o : CalOk c) : 1 ≤ allR c ∧ allR c ≤ 864010 := by
  have h := begR_b o c.Days.toNat
  have d1 := o.d1
  have d2 := o.d2
  have h1 := begR_mono o (d := 1) (e := c.Days.toNat) (by omega)
  have h2 : begR c 1 = lenR c 0 := by simp [begR]
  have := o.lb 0
  unfold allR
  omega
/-! ### Readings -/
def dayL (c : Cal) (t : Int) : Nat → Nat → Nat
  | 0, d => d
  | n + 1, d => if t < begR c (d + 1) then d else dayL c t n (d + 1)
def dayR (c : Cal) (t : Int) : Nat := dayL c t c.Days.toNat 0
def minR (c : Cal) (left : Int) : Int := if left / c.Seconds < c.Hours * c.Minutes - 1 then left / c.Seconds else c.Hours * c.Minutes - 1
def leftR (c : Cal) (t : Int) : Int := t - begR c (dayR c t)
def readR (c : Cal) (t : Int) : Reading := ⟨dayR c t, minR c (leftR c t) / c.Minutes, minR c (leftR c t) % c.Minutes, leftR c t - minR c (leftR c t) * c.Seconds⟩
def secsR (c : Cal) (d m : Int) : Int := c.Seconds + if m = c.Hours * c.Minutes - 1 then moreR c.Decrees d else 0
def minOf (c : Cal) (r : Reading) : Int := r.Hour * c.Minutes + r.Minute
def validR (c : Cal) (r : Reading) : Bool := wi r.Day 0 (c.Days - 1) && wi r.Hour 0 (c.Hours - 1) && wi r.Minute 0 (c.Minutes - 1) && wi r.Second 0 (secsR c r.Day (minOf c r) - 1)
def tickR (c : Cal) (r : Reading) : Int := begR c r.Day.toNat + minOf c r * c.Seconds + r.Second
theorem dayL_spec {c : Cal} (o : CalOk c) (t : Int) : ∀ (n d : Nat), begR c d ≤ t → t < begR c (d + n) → d ≤ dayL c t n d ∧ dayL c t n d < d + n ∧ begR c (dayL c t n d) ≤ t ∧ t < begR c (dayL c t n d + 1)
  | 0, d, h1, h2 => by simp at h2; omega
  | n + 1, d, h1, h2 => by
    rw [dayL]
    by_cases h : t < begR c (d + 1)
    · rw [if_pos h]; exact ⟨by omega, by omega, h1, h⟩
    · rw [if_neg h]
      obtain ⟨g1, g2, g3, g4⟩ := dayL_spec o t n (d + 1) (by omega) (by rw [show d + 1 + n = d + (n + 1) by omega]; exact h2)
      exact ⟨by omega, by omega, g3, g4⟩
theorem dayR_spec {c : Cal} (o : CalOk c) {t : Int} (h0 : 0 ≤ t) (h1 : t < allR c) : dayR c t < c.Days.toNat ∧ begR c (dayR c t) ≤ t ∧ t < begR c (dayR c t + 1) := by
  obtain ⟨_, g2, g3, g4⟩ := dayL_spec o t c.Days.toNat 0 h0 (by rw [Nat.zero_add]; exact h1)
  exact ⟨by unfold dayR; omega, g3, g4⟩
theorem day_uniq {c : Cal} (o : CalOk c) {t : Int} {d e : Nat} (h1 : begR c d ≤ t) (h2 : t < begR c (d + 1)) (h3 : begR c e ≤ t) (h4 : t < begR c (e + 1)) : d = e := by
  by_cases h : d < e
  · have := begR_mono o (d := d + 1) (e := e) (by omega); omega
  · by_cases h' : e < d
    · have := begR_mono o (d := e + 1) (e := d) (by omega); omega
    · omega
/-- A minute and what is left. -/
theorem min_split {c : Cal} (o : CalOk c) {left d : Int} (h0 : 0 ≤ left) (h1 : left < lenR c d) :
    0 ≤ minR c left ∧ minR c left ≤ c.Hours * c.Minutes - 1 ∧ 0 ≤ left - minR c left * c.Seconds ∧ left - minR c left * c.Seconds ≤ secsR c d (minR c left) - 1 := by
  have s1 := o.s1
  have w1 := o.w1
  have hm1 := o.hm1
  have e1 := Int.mul_ediv_add_emod left c.Seconds
  have e2 := Int.emod_nonneg left (show c.Seconds ≠ 0 by omega)
  have e3 := Int.emod_lt_of_pos left (show 0 < c.Seconds by omega)
  have q0 : 0 ≤ left / c.Seconds := Int.ediv_nonneg h0 (by omega)
  have mb := o.mb d
  unfold lenR at h1
  unfold minR secsR
  by_cases hq : left / c.Seconds < c.Hours * c.Minutes - 1
  · rw [if_pos hq, if_neg (by omega)]
    have e4 : left / c.Seconds * c.Seconds = c.Seconds * (left / c.Seconds) := Int.mul_comm _ _
    omega
  · rw [if_neg hq, if_pos rfl]
    have e4 : (c.Hours * c.Minutes - 1) * c.Seconds ≤ left / c.Seconds * c.Seconds := Int.mul_le_mul_of_nonneg_right (by omega) (by omega)
    have e5 : left / c.Seconds * c.Seconds = c.Seconds * (left / c.Seconds) := Int.mul_comm _ _
    omega
theorem min_join {c : Cal} (o : CalOk c) {m s d : Int} (h0 : 0 ≤ m) (h1 : m ≤ c.Hours * c.Minutes - 1) (h2 : 0 ≤ s) (h3 : s ≤ secsR c d m - 1) :
    0 ≤ m * c.Seconds + s ∧ m * c.Seconds + s < lenR c d ∧ minR c (m * c.Seconds + s) = m := by
  have s1 := o.s1
  have w1 := o.w1
  have mb := o.mb d
  have m0 : 0 ≤ m * c.Seconds := Int.mul_nonneg h0 (by omega)
  unfold secsR at h3
  unfold lenR minR
  by_cases hm : m = c.Hours * c.Minutes - 1
  · rw [if_pos hm] at h3
    have e2 : c.Hours * c.Minutes - 1 ≤ (m * c.Seconds + s) / c.Seconds := by
      rw [← hm]
      exact (Int.le_ediv_iff_mul_le (by omega)).2 (by omega)
    rw [if_neg (by omega), hm]
    rw [hm] at m0
    refine ⟨by omega, by omega, rfl⟩
  · rw [if_neg hm] at h3
    have e1 : (m * c.Seconds + s) / c.Seconds = m := by
      refine ((Int.ediv_emod_unique (r := s) (show 0 < c.Seconds by omega)).2 ⟨?_, by omega, by omega⟩).1
      rw [Int.mul_comm]; omega
    have e3 : (m + 1) * c.Seconds ≤ (c.Hours * c.Minutes - 1) * c.Seconds := Int.mul_le_mul_of_nonneg_right (by omega) (by omega)
    have e4 : (m + 1) * c.Seconds = m * c.Seconds + c.Seconds := by rw [Int.add_mul]; omega
    rw [e1, if_pos (by omega)]
    refine ⟨by omega, by omega, rfl⟩
/-- Each tick's reading is one, and its tick is it. -/
theorem read_valid {c : Cal} (o : CalOk c) {t : Int} (h0 : 0 ≤ t) (h1 : t < allR c) : validR c (readR c t) = true ∧ tickR c (readR c t) = t ∧ minOf c (readR c t) = minR c (leftR c t) := by
  obtain ⟨d1, d2, d3⟩ := dayR_spec o h0 h1
  have hd := o.d1
  have m1 := o.m1
  have hl0 : 0 ≤ leftR c t := by unfold leftR; omega
  have hl1 : leftR c t < lenR c (dayR c t) := by unfold leftR; rw [begR] at d3; omega
  obtain ⟨g1, g2, g3, g4⟩ := min_split o hl0 hl1
  have e1 := Int.mul_ediv_add_emod (minR c (leftR c t)) c.Minutes
  have e2 := Int.emod_nonneg (minR c (leftR c t)) (show c.Minutes ≠ 0 by omega)
  have e3 := Int.emod_lt_of_pos (minR c (leftR c t)) (show 0 < c.Minutes by omega)
  have q0 : 0 ≤ minR c (leftR c t) / c.Minutes := Int.ediv_nonneg g1 (by omega)
  have q1 : minR c (leftR c t) / c.Minutes < c.Hours := (Int.ediv_lt_iff_lt_mul (by omega)).2 (by omega)
  have hmin : minOf c (readR c t) = minR c (leftR c t) := by
    unfold minOf readR
    simp only
    rw [Int.mul_comm]; omega
  refine ⟨?_, ?_, hmin⟩
  · simp only [validR, Bool.and_eq_true, wi_iff, hmin]
    simp only [readR]
    exact ⟨⟨⟨⟨by omega, by omega⟩, by omega, by omega⟩, by omega, by omega⟩, g3, g4⟩
  · unfold tickR
    rw [hmin]
    simp only [readR, leftR]
    have : ((dayR c t : Nat) : Int).toNat = dayR c t := by omega
    rw [this]
    omega
/-- Each reading's tick is one, and its reading is it. -/
theorem tick_read {c : Cal} (o : CalOk c) {r : Reading} (h : validR c r = true) : 0 ≤ tickR c r ∧ tickR c r < allR c ∧ readR c (tickR c r) = r := by
  simp only [validR, Bool.and_eq_true, wi_iff] at h
  obtain ⟨⟨⟨⟨d1, d2⟩, ⟨h1, h2⟩⟩, ⟨m1, m2⟩⟩, s1, s2⟩ := h
  have hM := o.m1
  have hH := o.h1
  have hmo : 0 ≤ minOf c r ∧ minOf c r ≤ c.Hours * c.Minutes - 1 := by
    have g1 : 0 ≤ r.Hour * c.Minutes := Int.mul_nonneg h1 (by omega)
    have g2 : r.Hour * c.Minutes ≤ (c.Hours - 1) * c.Minutes := Int.mul_le_mul_of_nonneg_right (by omega) (by omega)
    have g3 : (c.Hours - 1) * c.Minutes = c.Hours * c.Minutes - c.Minutes := by rw [Int.sub_mul]; omega
    unfold minOf
    omega
  obtain ⟨g1, g2, g3⟩ := min_join o hmo.1 hmo.2 s1 s2
  have hdn : ((r.Day.toNat : Nat) : Int) = r.Day := by omega
  have hb := begR_b o r.Day.toNat
  have b1 : begR c r.Day.toNat ≤ tickR c r := by unfold tickR; omega
  have b2 : tickR c r < begR c (r.Day.toNat + 1) := by rw [begR, hdn]; unfold tickR; omega
  have b3 : tickR c r < allR c := by
    have := begR_mono o (d := r.Day.toNat + 1) (e := c.Days.toNat) (by omega)
    unfold allR; omega
  obtain ⟨e1, e2, e3⟩ := dayR_spec o (t := tickR c r) (by omega) b3
  have hday : dayR c (tickR c r) = r.Day.toNat := day_uniq o e2 e3 b1 b2
  have hleft : leftR c (tickR c r) = minOf c r * c.Seconds + r.Second := by unfold leftR; rw [hday]; unfold tickR; omega
  refine ⟨by omega, b3, ?_⟩
  have hq : minOf c r / c.Minutes = r.Hour ∧ minOf c r % c.Minutes = r.Minute := by
    refine (Int.ediv_emod_unique (show 0 < c.Minutes by omega)).2 ⟨?_, by omega, by omega⟩
    unfold minOf; rw [Int.mul_comm c.Minutes]; omega
  unfold readR
  rw [hday, hleft, g3, hq.1, hq.2, hdn]
  rw [← eta_Reading r]
  congr 1
  simp only [eta_Reading]
  omega
end Go.RS.DC

/- The chapter, as plain functions (2): what is told; towns. -/
namespace Go.RS.DC
open Go Go.RS
open Go.RS.Enc (enc dec)
def zeroRd : Reading := ⟨0, 0, 0, 0⟩
def checkR (c : Cal) : Int := if okC c then 0 else 10
def LengthR (c : Cal) (d : Int) : Int × Int := if okC c then (if wi d 0 (c.Days - 1) then (lenR c d, 0) else (0, 11)) else (0, 10)
def TotalR (c : Cal) : Int × Int := if okC c then (allR c, 0) else (0, 10)
def ReadingR (c : Cal) (t : Int) : Reading × Int := if okC c then (if wi t 0 (allR c - 1) then (readR c t, 0) else (zeroRd, 11)) else (zeroRd, 10)
def TickR (c : Cal) (r : Reading) : Int × Int := if okC c then (if validR c r then (tickR c r, 0) else (0, 4)) else (0, 10)
def ApartR (c : Cal) (a b : Reading) : Int × Int :=
  if (TickR c a).2 = 0 then (if (TickR c b).2 = 0 then ((TickR c b).1 - (TickR c a).1, 0) else (0, (TickR c b).2)) else (0, (TickR c a).2)
def nextL (c : Cal) (each : Int) : Nat → Int → Int × Int
  | 0, _ => (0, 4)
  | n + 1, t => if (readR c t).Second % each = 0 then (t, 0) else nextL c each n (t + 1)
def NextR (c : Cal) (t each : Int) : Int × Int :=
  if okC c then (if wi t 0 (allR c - 1) && wi each 1 60 then nextL c each (allR c - t).toNat t else (0, 11)) else (0, 10)
/-! ### Towns -/
def chgOk (all : Int) : Int → List Change → Bool
  | _, [] => true
  | last, x :: l => wi x.Tick (last + 1) (all - 1) && wi x.Ahead (-1440) 1440 && chgOk all x.Tick l
def okT (c : Cal) (t : Town) : Bool := wi t.Ahead (-1440) 1440 && decide (t.Changes.length ≤ 6) && chgOk (allR c) 0 t.Changes
def CheckTownR (c : Cal) (t : Town) : Int := if okC c then (if okT c t then 0 else 12) else 10
def aheadL : Int → List Change → Int → Int
  | n, [], _ => n
  | n, x :: l, k => aheadL (if x.Tick ≤ k then x.Ahead else n) l k
def thruR (c : Cal) (r : Reading) : Int := (r.Day * c.Hours + r.Hour) * c.Minutes + r.Minute
def ofThru (c : Cal) (n s : Int) : Reading := ⟨n / c.Minutes / c.Hours, n / c.Minutes % c.Hours, n % c.Minutes, s⟩
def movedR (c : Cal) (r : Reading) (by_ : Int) : Reading := ofThru c (thruR c r + by_) r.Second
def localR (c : Cal) (t : Town) (k : Int) : Reading := movedR c (readR c k) (aheadL t.Ahead t.Changes k)
def LocalR (c : Cal) (t : Town) (k : Int) : Reading × Int :=
  if CheckTownR c t = 0 then (if wi k 0 (allR c - 1) then (localR c t k, 0) else (zeroRd, 11)) else (zeroRd, CheckTownR c t)
def properR (c : Cal) (r : Reading) : Bool := wi r.Hour 0 (c.Hours - 1) && wi r.Minute 0 (c.Minutes - 1)
def tickF (c : Cal) (r : Reading) : Int := if validR c r then tickR c r else -1
def oneL (c : Cal) (r : Reading) (from_ by_ until_ : Int) : List Int :=
  if from_ ≤ tickF c (movedR c r (-by_)) ∧ tickF c (movedR c r (-by_)) < until_ then [tickF c (movedR c r (-by_))] else []
def ticksL (c : Cal) (r : Reading) : Int → Int → List Change → List Int
  | from_, by_, [] => oneL c r from_ by_ (allR c)
  | from_, by_, x :: l => oneL c r from_ by_ x.Tick ++ ticksL c r x.Tick x.Ahead l
def ticksR (c : Cal) (t : Town) (r : Reading) : List Int := if properR c r && wi r.Day (-2000) 2000 then ticksL c r 0 t.Ahead t.Changes else []
def TicksR (c : Cal) (t : Town) (r : Reading) : List Int × Int := if CheckTownR c t = 0 then (ticksR c t r, 0) else ([], CheckTownR c t)
/-! ### Bounds of towns -/
theorem aheadL_b : ∀ (l : List Change) (all n last k : Int), -1440 ≤ n → n ≤ 1440 → chgOk all last l = true → -1440 ≤ aheadL n l k ∧ aheadL n l k ≤ 1440
  | [], _, _, _, _, h1, h2, _ => ⟨h1, h2⟩
  | x :: l, all, n, last, k, h1, h2, h => by
    simp only [chgOk, Bool.and_eq_true, wi_iff] at h
    rw [aheadL]
    split
    · exact aheadL_b l all _ x.Tick k h.1.2.1 h.1.2.2 h.2
    · exact aheadL_b l all _ x.Tick k h1 h2 h.2
structure TownOk (c : Cal) (t : Town) : Prop where
  a1 : -1440 ≤ t.Ahead
  a2 : t.Ahead ≤ 1440
  ln : t.Changes.length ≤ 6
  ch : chgOk (allR c) 0 t.Changes = true
  ab : ∀ k, -1440 ≤ aheadL t.Ahead t.Changes k ∧ aheadL t.Ahead t.Changes k ≤ 1440
theorem okT_ok {c : Cal} {t : Town} (h : okT c t = true) : TownOk c t := by
  simp only [okT, Bool.and_eq_true, wi_iff, decide_eq_true_eq] at h
  obtain ⟨⟨⟨a1, a2⟩, ln⟩, ch⟩ := h
  exact ⟨a1, a2, ln, ch, fun k => aheadL_b _ _ _ _ _ a1 a2 ch⟩
theorem checkTown_zero {c : Cal} {t : Town} (h : CheckTownR c t = 0) : okC c = true ∧ okT c t = true := by
  unfold CheckTownR at h
  split at h
  · rename_i hc
    split at h
    · rename_i ht; exact ⟨hc, ht⟩
    · cases h
  · cases h
/-! ### Moving a reading -/
theorem thru_of {c : Cal} (o : CalOk c) (n s : Int) : thruR c (ofThru c n s) = n ∧ properR c (ofThru c n s) = true := by
  have m1 := o.m1
  have h1 := o.h1
  have e1 := Int.mul_ediv_add_emod n c.Minutes
  have e2 := Int.emod_nonneg n (show c.Minutes ≠ 0 by omega)
  have e3 := Int.emod_lt_of_pos n (show 0 < c.Minutes by omega)
  have f1 := Int.mul_ediv_add_emod (n / c.Minutes) c.Hours
  have f2 := Int.emod_nonneg (n / c.Minutes) (show c.Hours ≠ 0 by omega)
  have f3 := Int.emod_lt_of_pos (n / c.Minutes) (show 0 < c.Hours by omega)
  constructor
  · unfold thruR ofThru
    simp only
    have g : n / c.Minutes / c.Hours * c.Hours + n / c.Minutes % c.Hours = n / c.Minutes := by rw [Int.mul_comm]; exact f1
    rw [g, Int.mul_comm]; exact e1
  · simp only [properR, Bool.and_eq_true, wi_iff, ofThru]
    omega
theorem ofThru_thru {c : Cal} (o : CalOk c) {r : Reading} (h : properR c r = true) : ofThru c (thruR c r) r.Second = r := by
  simp only [properR, Bool.and_eq_true, wi_iff] at h
  obtain ⟨⟨h1, h2⟩, m1, m2⟩ := h
  have hM := o.m1
  have hH := o.h1
  have e1 : thruR c r / c.Minutes = r.Day * c.Hours + r.Hour ∧ thruR c r % c.Minutes = r.Minute := by
    refine (Int.ediv_emod_unique (show 0 < c.Minutes by omega)).2 ⟨?_, by omega, by omega⟩
    unfold thruR; rw [Int.mul_comm c.Minutes]; omega
  have e2 : (r.Day * c.Hours + r.Hour) / c.Hours = r.Day ∧ (r.Day * c.Hours + r.Hour) % c.Hours = r.Hour := by
    refine (Int.ediv_emod_unique (show 0 < c.Hours by omega)).2 ⟨?_, by omega, by omega⟩
    rw [Int.mul_comm c.Hours]; omega
  unfold ofThru
  rw [e1.1, e1.2, e2.1, e2.2]
theorem moved_back {c : Cal} (o : CalOk c) {r s : Reading} (hr : properR c r = true) (hs : properR c s = true) (n : Int) : movedR c r n = s ↔ r = movedR c s (-n) := by
  constructor
  · intro h
    have h2 : thruR c s = thruR c r + n := by rw [← h]; exact (thru_of o _ _).1
    have h3 : s.Second = r.Second := by rw [← h]; rfl
    unfold movedR
    rw [h2, h3, show thruR c r + n + -n = thruR c r by omega, ofThru_thru o hr]
  · intro h
    have h2 : thruR c r = thruR c s + -n := by rw [h]; exact (thru_of o _ _).1
    have h3 : r.Second = s.Second := by rw [h]; rfl
    unfold movedR
    rw [h2, h3, show thruR c s + -n + n = thruR c s by omega, ofThru_thru o hs]
theorem valid_proper {c : Cal} {r : Reading} (h : validR c r = true) : properR c r = true := by
  simp only [validR, properR, Bool.and_eq_true] at h ⊢
  exact ⟨h.1.1.2, h.1.2⟩
theorem read_proper {c : Cal} (o : CalOk c) {t : Int} (h0 : 0 ≤ t) (h1 : t < allR c) : properR c (readR c t) = true := valid_proper (read_valid o h0 h1).1
/-- A tick's reading, so much moved, is one just if the tick is that of the reading moved back. -/
theorem moved_tick {c : Cal} (o : CalOk c) {r : Reading} (hr : properR c r = true) {k : Int} (h0 : 0 ≤ k) (h1 : k < allR c) (n : Int) : movedR c (readR c k) n = r ↔ tickF c (movedR c r (-n)) = k := by
  rw [moved_back o (read_proper o h0 h1) hr]
  constructor
  · intro h
    have hv := read_valid o h0 h1
    unfold tickF
    rw [← h, if_pos hv.1, hv.2.1]
  · intro h
    unfold tickF at h
    split at h
    · rename_i hv
      rw [← h]; exact (tick_read o hv).2.2
    · omega
theorem tickF_b {c : Cal} (o : CalOk c) (r : Reading) : tickF c r = -1 ∨ 0 ≤ tickF c r ∧ tickF c r < allR c := by
  unfold tickF
  split
  · rename_i hv; have := tick_read o hv; omega
  · exact .inl rfl
/-! ### All ticks of a local reading -/
theorem mem_oneL {c : Cal} (o : CalOk c) {r : Reading} (hr : properR c r = true) {from_ by_ until_ k : Int} (h0 : 0 ≤ from_) (h1 : until_ ≤ allR c) : k ∈ oneL c r from_ by_ until_ ↔ from_ ≤ k ∧ k < until_ ∧ movedR c (readR c k) by_ = r := by
  unfold oneL
  constructor
  · intro h
    split at h
    · rename_i hc
      simp only [List.mem_singleton] at h
      subst h
      exact ⟨hc.1, hc.2, (moved_tick o hr (by omega) (by omega) by_).2 rfl⟩
    · cases h
  · rintro ⟨g1, g2, g3⟩
    have := (moved_tick o hr (k := k) (by omega) (by omega) by_).1 g3
    rw [this, if_pos ⟨g1, g2⟩]; simp
theorem aheadL_before : ∀ (l : List Change) (all n last k : Int), chgOk all last l = true → k ≤ last → aheadL n l k = n
  | [], _, _, _, _, _, _ => rfl
  | x :: l, all, n, last, k, h, hk => by
    simp only [chgOk, Bool.and_eq_true, wi_iff] at h
    rw [aheadL, if_neg (by omega)]
    exact aheadL_before l all n x.Tick k h.2 (by omega)
theorem mem_ticksL {c : Cal} (o : CalOk c) {r : Reading} (hr : properR c r = true) : ∀ (l : List Change) (from_ by_ k : Int), 0 ≤ from_ → from_ ≤ allR c → chgOk (allR c) from_ l = true →
    (k ∈ ticksL c r from_ by_ l ↔ from_ ≤ k ∧ k < allR c ∧ movedR c (readR c k) (aheadL by_ l k) = r)
  | [], from_, by_, k, h0, h1, _ => by rw [ticksL, aheadL]; exact mem_oneL o hr h0 (Int.le_refl _)
  | x :: l, from_, by_, k, h0, h1, h => by
    have hch := h
    simp only [chgOk, Bool.and_eq_true, wi_iff] at h
    rw [ticksL, List.mem_append, mem_oneL o hr h0 (by omega), mem_ticksL o hr l x.Tick x.Ahead k (by omega) (by omega) h.2, aheadL]
    by_cases hk : x.Tick ≤ k
    · rw [if_pos hk]
      constructor
      · rintro (g | ⟨g1, g2, g3⟩)
        · omega
        · exact ⟨by omega, g2, g3⟩
      · rintro ⟨g1, g2, g3⟩; exact .inr ⟨hk, g2, g3⟩
    · rw [if_neg hk, aheadL_before l _ by_ x.Tick k h.2 (by omega)]
      constructor
      · rintro (⟨g1, g2, g3⟩ | g)
        · exact ⟨g1, by omega, g3⟩
        · omega
      · rintro ⟨g1, g2, g3⟩; exact .inl ⟨g1, by omega, g3⟩
theorem ticksL_sorted {c : Cal} (o : CalOk c) {r : Reading} (hr : properR c r = true) : ∀ (l : List Change) (from_ by_ : Int), 0 ≤ from_ → from_ ≤ allR c → chgOk (allR c) from_ l = true → (ticksL c r from_ by_ l).Pairwise (· < ·)
  | [], from_, by_, _, _, _ => by
    rw [ticksL]; unfold oneL; split <;> simp
  | x :: l, from_, by_, h0, h1, h => by
    simp only [chgOk, Bool.and_eq_true, wi_iff] at h
    rw [ticksL, List.pairwise_append]
    refine ⟨by unfold oneL; split <;> simp, ticksL_sorted o hr l x.Tick x.Ahead (by omega) (by omega) h.2, fun a ha b hb => ?_⟩
    rw [mem_oneL o hr h0 (by omega)] at ha
    rw [mem_ticksL o hr l x.Tick x.Ahead b (by omega) (by omega) h.2] at hb
    omega
/-- Sorted lists with the same elements are the same. -/
theorem sorted_ext : ∀ {a b : List Int}, a.Pairwise (· < ·) → b.Pairwise (· < ·) → (∀ x, x ∈ a ↔ x ∈ b) → a = b
  | [], [], _, _, _ => rfl
  | [], y :: b, _, _, h => by have := (h y).2 (by simp); cases this
  | x :: a, [], _, _, h => by have := (h x).1 (by simp); cases this
  | x :: a, y :: b, ha, hb, h => by
    obtain ⟨ha1, ha2⟩ := List.pairwise_cons.1 ha
    obtain ⟨hb1, hb2⟩ := List.pairwise_cons.1 hb
    have hxy : x = y := by
      have h1 := (h x).1 (by simp)
      have h2 := (h y).2 (by simp)
      rcases List.mem_cons.1 h1 with h1 | h1
      · exact h1
      · rcases List.mem_cons.1 h2 with h2 | h2
        · exact h2.symm
        · have := hb1 x h1; have := ha1 y h2; omega
    subst hxy
    rw [sorted_ext ha2 hb2 fun z => ?_]
    constructor
    · intro hz
      rcases List.mem_cons.1 ((h z).1 (by simp [hz])) with e | e
      · have := ha1 z hz; omega
      · exact e
    · intro hz
      rcases List.mem_cons.1 ((h z).2 (by simp [hz])) with e | e
      · have := hb1 z hz; omega
      · exact e
theorem thru_b {c : Cal} (o : CalOk c) {k : Int} (h0 : 0 ≤ k) (h1 : k < allR c) : 0 ≤ thruR c (readR c k) ∧ thruR c (readR c k) < 14400 := by
  have hv := (read_valid o h0 h1).1
  simp only [validR, Bool.and_eq_true, wi_iff] at hv
  obtain ⟨⟨⟨⟨d1, d2⟩, ⟨h3, h4⟩⟩, ⟨m1, m2⟩⟩, s1, s2⟩ := hv
  generalize readR c k = r at *
  have dd := o.d2
  have hh := o.h2
  have hm := o.m2
  have hH := o.h1
  have hM := o.m1
  have g1 : 0 ≤ r.Day * c.Hours := Int.mul_nonneg d1 (by omega)
  have g2 : r.Day * c.Hours ≤ 9 * c.Hours := Int.mul_le_mul_of_nonneg_right (by omega) (by omega)
  have g3 : 0 ≤ (r.Day * c.Hours + r.Hour) * c.Minutes := Int.mul_nonneg (by omega) (by omega)
  have g4 : (r.Day * c.Hours + r.Hour) * c.Minutes ≤ 239 * 60 := Int.mul_le_mul (by omega) (by omega) (by omega) (by omega)
  unfold thruR
  omega
theorem local_day {c : Cal} (o : CalOk c) {t : Town} (ot : TownOk c t) {k : Int} (h0 : 0 ≤ k) (h1 : k < allR c) : properR c (localR c t k) = true ∧ -2000 ≤ (localR c t k).Day ∧ (localR c t k).Day ≤ 2000 := by
  have ab := ot.ab k
  have tb := thru_b o h0 h1
  have hb := (read_valid o h0 h1).1
  refine ⟨(thru_of o _ _).2, ?_⟩
  have hd : (readR c k).Day ≤ 9 ∧ 0 ≤ (readR c k).Day := by
    simp only [validR, Bool.and_eq_true, wi_iff] at hb
    have := o.d2
    omega
  have hm1 := o.hm1
  have hH := o.h1
  have hM := o.m1
  -- the day is the quotient by the minutes of a day
  have e : (localR c t k).Day = (thruR c (readR c k) + aheadL t.Ahead t.Changes k) / (c.Minutes * c.Hours) := by
    unfold localR movedR ofThru
    simp only
    rw [Int.ediv_ediv_of_nonneg (by omega)]
  rw [e]
  have hmh : c.Minutes * c.Hours = c.Hours * c.Minutes := Int.mul_comm _ _
  rw [hmh]
  have hthru : thruR c (readR c k) ≤ 9 * (c.Hours * c.Minutes) + (c.Hours * c.Minutes - 1) := by
    have hv := (read_valid o h0 h1).1
    simp only [validR, Bool.and_eq_true, wi_iff] at hv
    obtain ⟨⟨⟨⟨d1, d2⟩, ⟨h3, h4⟩⟩, ⟨m1, m2⟩⟩, s1, s2⟩ := hv
    generalize readR c k = r at *
    have g2 : r.Day * c.Hours + r.Hour ≤ 9 * c.Hours + (c.Hours - 1) := by
      have := Int.mul_le_mul_of_nonneg_right (show r.Day ≤ 9 by omega) (show 0 ≤ c.Hours by omega)
      omega
    have g3 : (r.Day * c.Hours + r.Hour) * c.Minutes ≤ (9 * c.Hours + (c.Hours - 1)) * c.Minutes := Int.mul_le_mul_of_nonneg_right g2 (by omega)
    have g4 : (9 * c.Hours + (c.Hours - 1)) * c.Minutes = 9 * (c.Hours * c.Minutes) + (c.Hours * c.Minutes - c.Minutes) := by
      rw [Int.add_mul, Int.sub_mul, Int.mul_assoc]; omega
    unfold thruR
    omega
  constructor
  · refine (Int.le_ediv_iff_mul_le (by omega)).2 ?_
    have : -2000 * (c.Hours * c.Minutes) ≤ -2000 * 1 := by omega
    omega
  · have : (thruR c (readR c k) + aheadL t.Ahead t.Changes k) / (c.Hours * c.Minutes) < 2001 := (Int.ediv_lt_iff_lt_mul (by omega)).2 (by omega)
    omega
/-- Just the ticks with a local reading. -/
theorem mem_ticksR {c : Cal} (o : CalOk c) {t : Town} (ot : TownOk c t) (r : Reading) (k : Int) : k ∈ ticksR c t r ↔ 0 ≤ k ∧ k < allR c ∧ localR c t k = r := by
  unfold ticksR
  have ha := allR_b o
  constructor
  · intro h
    split at h
    · rename_i hp
      simp only [Bool.and_eq_true] at hp
      exact (mem_ticksL o hp.1 _ _ _ _ (Int.le_refl 0) (by omega) ot.ch).1 h
    · cases h
  · rintro ⟨h0, h1, h2⟩
    obtain ⟨g1, g2, g3⟩ := local_day o ot h0 h1
    rw [h2] at g1 g2 g3
    rw [if_pos (by rw [g1, (wi_iff _ _ _).2 ⟨g2, g3⟩]; rfl)]
    exact (mem_ticksL o g1 _ _ _ _ (Int.le_refl 0) (by omega) ot.ch).2 ⟨h0, h1, h2⟩
theorem ticksR_sorted {c : Cal} (o : CalOk c) {t : Town} (ot : TownOk c t) (r : Reading) : (ticksR c t r).Pairwise (· < ·) := by
  unfold ticksR
  have ha := allR_b o
  split
  · rename_i hp
    simp only [Bool.and_eq_true] at hp
    exact ticksL_sorted o hp.1 _ _ _ (Int.le_refl 0) (by omega) ot.ch
  · exact .nil
end Go.RS.DC

/- The chapter, as plain functions (3): the order of readings; what comes twice; the next announcement. -/
namespace Go.RS.DC
open Go Go.RS
open Go.RS.Enc (enc dec)
/-! ### What comes twice -/
def twiceB (c : Cal) (t : Town) (k : Int) : Bool := match ticksR c t (localR c t k) with | [] => false | x :: _ => decide (x < k)
def twN (c : Cal) (t : Town) : Nat → Int
  | 0 => 0
  | n + 1 => twN c t n + if twiceB c t n then 1 else 0
def TwiceR (c : Cal) (t : Town) : Int × Int := if CheckTownR c t = 0 then (twN c t (allR c).toNat, 0) else (0, CheckTownR c t)
theorem twiceB_iff {c : Cal} (o : CalOk c) {t : Town} (ot : TownOk c t) {k : Int} (h1 : k < allR c) : twiceB c t k = true ↔ ∃ j, 0 ≤ j ∧ j < k ∧ localR c t j = localR c t k := by
  have hm := mem_ticksR o ot (localR c t k)
  have hs := ticksR_sorted o ot (localR c t k)
  unfold twiceB
  cases hl : ticksR c t (localR c t k) with
  | nil =>
    rw [hl] at hm
    simp only [Bool.false_eq_true, false_iff]
    rintro ⟨j, h0, hj, e⟩
    have := (hm j).2 ⟨h0, by omega, e⟩
    cases this
  | cons x l =>
    rw [hl] at hm hs
    obtain ⟨hx, _⟩ := List.pairwise_cons.1 hs
    simp only [decide_eq_true_eq]
    constructor
    · intro h
      obtain ⟨g1, g2, g3⟩ := (hm x).1 (by simp)
      exact ⟨x, g1, h, g3⟩
    · rintro ⟨j, h0, hj, e⟩
      rcases List.mem_cons.1 ((hm j).2 ⟨h0, by omega, e⟩) with rfl | h
      · exact hj
      · have := hx j h; omega
theorem twN_b (c : Cal) (t : Town) : ∀ n : Nat, 0 ≤ twN c t n ∧ twN c t n ≤ n
  | 0 => by simp [twN]
  | n + 1 => by
    have := twN_b c t n
    rw [twN]; split <;> omega
/-- As long as nobody is less ahead than before no reading comes twice. -/
theorem local_inj {c : Cal} (o : CalOk c) {t : Town} {j k : Int} (h0 : 0 ≤ j) (hjk : j < k) (h1 : k < allR c) (hthru : thruR c (readR c j) ≤ thruR c (readR c k)) (ha : aheadL t.Ahead t.Changes j ≤ aheadL t.Ahead t.Changes k) : localR c t j ≠ localR c t k := by
  intro e
  have e1 : thruR c (localR c t j) = thruR c (localR c t k) := by rw [e]
  have e2 : (localR c t j).Second = (localR c t k).Second := by rw [e]
  unfold localR movedR at e1 e2
  rw [(thru_of o _ _).1, (thru_of o _ _).1] at e1
  simp only [ofThru] at e2
  have hj := read_proper o h0 (by omega : j < allR c)
  have hk := read_proper o (by omega) h1
  have er : readR c j = readR c k := by
    rw [← ofThru_thru o hj, ← ofThru_thru o hk, e2, show thruR c (readR c j) = thruR c (readR c k) by omega]
  have t1 := (read_valid o h0 (by omega : j < allR c)).2.1
  have t2 := (read_valid o (by omega) h1).2.1
  rw [er] at t1
  omega
theorem day_mono {c : Cal} (o : CalOk c) {j k : Int} (h0 : 0 ≤ j) (hjk : j ≤ k) (h1 : k < allR c) : dayR c j ≤ dayR c k := by
  obtain ⟨a1, a2, a3⟩ := dayR_spec o h0 (by omega : j < allR c)
  obtain ⟨b1, b2, b3⟩ := dayR_spec o (by omega : 0 ≤ k) h1
  by_cases h : dayR c j ≤ dayR c k
  · exact h
  · have := begR_mono o (d := dayR c k + 1) (e := dayR c j) (by omega); omega
theorem minR_mono {c : Cal} (o : CalOk c) {a b : Int} (h : a ≤ b) : minR c a ≤ minR c b := by
  have s1 := o.s1
  have := Int.ediv_le_ediv (show 0 < c.Seconds by omega) h
  unfold minR
  split <;> split <;> omega
theorem thruR_read {c : Cal} (o : CalOk c) {k : Int} (h0 : 0 ≤ k) (h1 : k < allR c) : thruR c (readR c k) = (dayR c k : Int) * (c.Hours * c.Minutes) + minR c (leftR c k) := by
  have h := (read_valid o h0 h1).2.2
  unfold minOf at h
  unfold thruR
  rw [Int.add_mul, Int.mul_assoc, Int.add_assoc, h]
  rfl
theorem thru_mono {c : Cal} (o : CalOk c) {j k : Int} (h0 : 0 ≤ j) (hjk : j ≤ k) (h1 : k < allR c) : thruR c (readR c j) ≤ thruR c (readR c k) := by
  rw [thruR_read o h0 (by omega), thruR_read o (by omega) h1]
  obtain ⟨a1, a2, a3⟩ := dayR_spec o h0 (by omega : j < allR c)
  obtain ⟨b1, b2, b3⟩ := dayR_spec o (by omega : 0 ≤ k) h1
  have hd := day_mono o h0 hjk h1
  have hm1 := o.hm1
  by_cases he : dayR c j = dayR c k
  · have hl : leftR c j ≤ leftR c k := by unfold leftR; rw [he]; omega
    have := minR_mono o hl
    rw [he]; omega
  · have hl1 : leftR c j < lenR c (dayR c j) := by unfold leftR; rw [begR] at a3; omega
    have hl2 : leftR c k < lenR c (dayR c k) := by unfold leftR; rw [begR] at b3; omega
    obtain ⟨m1, m2, _⟩ := min_split o (by unfold leftR; omega) hl1
    obtain ⟨m3, m4, _⟩ := min_split o (by unfold leftR; omega) hl2
    have : ((dayR c j : Int) + 1) * (c.Hours * c.Minutes) ≤ (dayR c k : Int) * (c.Hours * c.Minutes) := Int.mul_le_mul_of_nonneg_right (by omega) (by omega)
    have e : ((dayR c j : Int) + 1) * (c.Hours * c.Minutes) = (dayR c j : Int) * (c.Hours * c.Minutes) + c.Hours * c.Minutes := by rw [Int.add_mul]; omega
    omega
theorem twN_zero {c : Cal} (o : CalOk c) {t : Town} (ot : TownOk c t) : ∀ n : Nat, (n : Int) ≤ allR c → (∀ j k : Int, 0 ≤ j → j < k → k < n → aheadL t.Ahead t.Changes j ≤ aheadL t.Ahead t.Changes k) → twN c t n = 0
  | 0, _, _ => rfl
  | n + 1, hn, h => by
    rw [twN, twN_zero o ot n (by omega) (fun j k a b d => h j k a b (by omega))]
    have : twiceB c t n = false := by
      by_cases hx : twiceB c t n = true
      · obtain ⟨j, h0, hj, e⟩ := (twiceB_iff o ot (by omega)).1 hx
        exact absurd e (local_inj o h0 hj (by omega) (thru_mono o h0 (by omega) (by omega)) (h j n h0 hj (by omega)))
      · simpa using hx
    rw [this]; rfl
theorem twN_le (c : Cal) (t : Town) (n : Nat) : ∀ m : Nat, twN c t (n + m) ≤ twN c t n + m
  | 0 => by simp
  | m + 1 => by
    have := twN_le c t n m
    rw [← Nat.add_assoc, twN]
    split <;> omega
theorem twN_mono (c : Cal) (t : Town) (n : Nat) : ∀ m : Nat, twN c t n ≤ twN c t (n + m)
  | 0 => Int.le_refl _
  | m + 1 => by
    have := twN_mono c t n m
    rw [← Nat.add_assoc, twN]
    split <;> omega
theorem twN_same {c : Cal} (o : CalOk c) {t u : Town} (ot : TownOk c t) (ou : TownOk c u) : ∀ n : Nat, (n : Int) ≤ allR c → (∀ k : Int, 0 ≤ k → k < n → localR c t k = localR c u k) → twN c t n = twN c u n
  | 0, _, _ => rfl
  | n + 1, hn, h => by
    rw [twN, twN, twN_same o ot ou n (by omega) (fun k a b => h k a (by omega))]
    have : twiceB c t n = twiceB c u n := by
      rw [Bool.eq_iff_iff, twiceB_iff o ot (by omega), twiceB_iff o ou (by omega)]
      constructor
      · rintro ⟨j, h0, hj, e⟩; exact ⟨j, h0, hj, by rw [← h j h0 (by omega), ← h n (by omega) (by omega)]; exact e⟩
      · rintro ⟨j, h0, hj, e⟩; exact ⟨j, h0, hj, by rw [h j h0 (by omega), h n (by omega) (by omega)]; exact e⟩
    rw [this]
/-! ### The order of readings -/
def laterP (a b : Reading) : Prop := b.Day < a.Day ∨ b.Day = a.Day ∧ (b.Hour < a.Hour ∨ b.Hour = a.Hour ∧ (b.Minute < a.Minute ∨ b.Minute = a.Minute ∧ b.Second < a.Second))
theorem read_later {c : Cal} (o : CalOk c) {j k : Int} (h0 : 0 ≤ j) (hjk : j < k) (h1 : k < allR c) : laterP (readR c k) (readR c j) := by
  have hd := day_mono o h0 (by omega : j ≤ k) h1
  unfold laterP
  by_cases he : dayR c j = dayR c k
  · right
    have hl : leftR c j < leftR c k := by unfold leftR; rw [he]; omega
    have hm := minR_mono o (a := leftR c j) (b := leftR c k) (by omega)
    have M1 := o.m1
    have hq := Int.ediv_le_ediv (show 0 < c.Minutes by omega) hm
    have ej := Int.mul_ediv_add_emod (minR c (leftR c j)) c.Minutes
    have ek := Int.mul_ediv_add_emod (minR c (leftR c k)) c.Minutes
    simp only [readR, he, true_and]
    by_cases hh : minR c (leftR c j) / c.Minutes = minR c (leftR c k) / c.Minutes
    · right
      refine ⟨hh, ?_⟩
      rw [hh] at ej
      by_cases hmm : minR c (leftR c j) = minR c (leftR c k)
      · right
        rw [hmm]
        exact ⟨rfl, by omega⟩
      · left; omega
    · left; omega
  · left
    simp only [readR]
    omega
/-! ### The next tick whose second can be divided -/
theorem nextL_spec (c : Cal) (each : Int) : ∀ (n : Nat) (t : Int), (nextL c each n t = (0, 4) ∧ ∀ k, t ≤ k → k < t + n → (readR c k).Second % each ≠ 0) ∨
    (∃ k, nextL c each n t = (k, 0) ∧ t ≤ k ∧ k < t + n ∧ (readR c k).Second % each = 0 ∧ ∀ j, t ≤ j → j < k → (readR c j).Second % each ≠ 0)
  | 0, t => .inl ⟨rfl, fun k h1 h2 => by omega⟩
  | n + 1, t => by
    rw [nextL]
    by_cases h : (readR c t).Second % each = 0
    · rw [if_pos h]
      exact .inr ⟨t, rfl, by omega, by omega, h, fun j h1 h2 => by omega⟩
    · rw [if_neg h]
      rcases nextL_spec c each n (t + 1) with ⟨g1, g2⟩ | ⟨k, g1, g2, g3, g4, g5⟩
      · refine .inl ⟨g1, fun k h1 h2 => ?_⟩
        by_cases hk : k = t
        · subst hk; exact h
        · exact g2 k (by omega) (by omega)
      · refine .inr ⟨k, g1, by omega, by omega, g4, fun j h1 h2 => ?_⟩
        by_cases hj : j = t
        · subst hj; exact h
        · exact g5 j (by omega) h2
/-- The tick behind a tick's minute. -/
def endOf (c : Cal) (t : Int) : Int := t + (secsR c (dayR c t) (minR c (leftR c t)) - (readR c t).Second)
/-- There a minute begins, or the calendar ends. -/
theorem minute_end {c : Cal} (o : CalOk c) {t : Int} (h0 : 0 ≤ t) (h1 : t < allR c) : t < endOf c t ∧ endOf c t ≤ t + c.Seconds + 1 ∧ (endOf c t = allR c ∨ endOf c t < allR c ∧ (readR c (endOf c t)).Second = 0) := by
  obtain ⟨d1, d2, d3⟩ := dayR_spec o h0 h1
  have hl0 : 0 ≤ leftR c t := by unfold leftR; omega
  have hl1 : leftR c t < lenR c (dayR c t) := by unfold leftR; rw [begR] at d3; omega
  obtain ⟨g1, g2, g3, g4⟩ := min_split o hl0 hl1
  have mb := o.mb (dayR c t)
  have w1 := o.w1
  have hS : (readR c t).Second = leftR c t - minR c (leftR c t) * c.Seconds := rfl
  unfold endOf
  rw [hS]
  generalize hm : minR c (leftR c t) = m at *
  have hsec : secsR c (dayR c t) m ≤ c.Seconds + 1 := by unfold secsR; split <;> omega
  refine ⟨by omega, by omega, ?_⟩
  have hs1 := o.s1
  by_cases hlast : m = c.Hours * c.Minutes - 1
  · -- the next day begins
    have he : t + (secsR c (dayR c t) m - (leftR c t - m * c.Seconds)) = begR c (dayR c t + 1) := by
      rw [begR]
      unfold secsR lenR leftR
      rw [if_pos hlast, hlast]; omega
    rw [he]
    by_cases hend : dayR c t + 1 = c.Days.toNat
    · left; rw [hend]; rfl
    · right
      have hlt : begR c (dayR c t + 1) < allR c := by
        have := begR_mono o (d := dayR c t + 1 + 1) (e := c.Days.toNat) (by omega)
        have := begR_lt o (dayR c t + 1)
        unfold allR; omega
      refine ⟨hlt, ?_⟩
      have hb := begR_b o (dayR c t + 1)
      obtain ⟨x1, x2, x3⟩ := dayR_spec o hb.1 hlt
      have hday : dayR c (begR c (dayR c t + 1)) = dayR c t + 1 := day_uniq o x2 x3 (Int.le_refl _) (begR_lt o _)
      have hleft : leftR c (begR c (dayR c t + 1)) = 0 := by unfold leftR; rw [hday]; omega
      have hm0 : minR c 0 = 0 := by
        have hm1 := o.hm1
        unfold minR
        rw [Int.zero_ediv]
        split <;> omega
      simp only [readR, hleft, hm0]
      omega
  · right
    have hsec2 : secsR c (dayR c t) m = c.Seconds := by unfold secsR; rw [if_neg hlast]; omega
    rw [hsec2]
    have hj := min_join o (m := m + 1) (s := 0) (d := dayR c t) (by omega) (by omega) (Int.le_refl 0) (by unfold secsR; split <;> omega)
    obtain ⟨j1, j2, j3⟩ := hj
    have he : t + (c.Seconds - (leftR c t - m * c.Seconds)) = begR c (dayR c t) + ((m + 1) * c.Seconds + 0) := by
      have : (m + 1) * c.Seconds = m * c.Seconds + c.Seconds := by rw [Int.add_mul]; omega
      rw [this]
      unfold leftR; omega
    rw [he]
    have hb := begR_b o (dayR c t)
    have hlt2 : begR c (dayR c t) + ((m + 1) * c.Seconds + 0) < begR c (dayR c t + 1) := by rw [begR]; omega
    have hlt : begR c (dayR c t) + ((m + 1) * c.Seconds + 0) < allR c := by
      have := begR_mono o (d := dayR c t + 1) (e := c.Days.toNat) (by omega)
      unfold allR; omega
    refine ⟨hlt, ?_⟩
    obtain ⟨x1, x2, x3⟩ := dayR_spec o (t := begR c (dayR c t) + ((m + 1) * c.Seconds + 0)) (by omega) hlt
    have hday : dayR c (begR c (dayR c t) + ((m + 1) * c.Seconds + 0)) = dayR c t := day_uniq o x2 x3 (by omega) hlt2
    have hleft : leftR c (begR c (dayR c t) + ((m + 1) * c.Seconds + 0)) = (m + 1) * c.Seconds + 0 := by unfold leftR; rw [hday]; omega
    simp only [readR, hleft, j3]
    omega
theorem minute_near {c : Cal} (o : CalOk c) {t : Int} (h0 : 0 ≤ t) (h1 : t < allR c) : ∃ e, t < e ∧ e ≤ t + c.Seconds + 1 ∧ (e = allR c ∨ e < allR c ∧ (readR c e).Second = 0) := ⟨_, minute_end o h0 h1⟩
/-- From one tick to the next one. -/
theorem read_next {c : Cal} (o : CalOk c) {t : Int} (h0 : 0 ≤ t) (h1 : t + 1 < allR c) : readR c (t + 1) = ⟨(readR c t).Day, (readR c t).Hour, (readR c t).Minute, (readR c t).Second + 1⟩ ∨ ((readR c (t + 1)).Second = 0 ∧ c.Seconds - 2 ≤ (readR c t).Second) := by
  obtain ⟨v1, v2, v3⟩ := read_valid o h0 (by omega : t < allR c)
  obtain ⟨e1, e2, e3⟩ := minute_end o h0 (by omega : t < allR c)
  have mb := o.mb (dayR c t)
  by_cases hs : (readR c t).Second + 1 ≤ secsR c (dayR c t) (minR c (leftR c t)) - 1
  · left
    have hv : validR c ⟨(readR c t).Day, (readR c t).Hour, (readR c t).Minute, (readR c t).Second + 1⟩ = true := by
      have v3' : minOf c ⟨(readR c t).Day, (readR c t).Hour, (readR c t).Minute, (readR c t).Second + 1⟩ = minOf c (readR c t) := rfl
      simp only [validR, Bool.and_eq_true, wi_iff, v3', v3] at v1 ⊢
      refine ⟨v1.1, by omega, ?_⟩
      exact hs
    obtain ⟨_, _, r3⟩ := tick_read o hv
    have : tickR c ⟨(readR c t).Day, (readR c t).Hour, (readR c t).Minute, (readR c t).Second + 1⟩ = t + 1 := by
      have : tickR c ⟨(readR c t).Day, (readR c t).Hour, (readR c t).Minute, (readR c t).Second + 1⟩ = tickR c (readR c t) + 1 := by
        unfold tickR minOf; simp only; omega
      rw [this, v2]
    rw [this] at r3
    exact r3
  · right
    simp only [validR, Bool.and_eq_true, wi_iff, v3] at v1
    have hd : secsR c (readR c t).Day (minR c (leftR c t)) = secsR c (dayR c t) (minR c (leftR c t)) := rfl
    rw [hd] at v1
    have hend : endOf c t = t + 1 := by unfold endOf; omega
    have hsec : c.Seconds - 1 ≤ secsR c (dayR c t) (minR c (leftR c t)) := by unfold secsR; split <;> omega
    rw [hend] at e3
    refine ⟨?_, by omega⟩
    rcases e3 with e3 | e3
    · omega
    · exact e3.2
end Go.RS.DC

/- The chapter, as plain functions (4): days and decrees. -/
namespace Go.RS.DC
open Go Go.RS
open Go.RS.Enc (enc dec)
def at0 (d : Int) : Reading := ⟨d, 0, 0, 0⟩
theorem at0_valid {c : Cal} (o : CalOk c) (d : Int) : validR c (at0 d) = true ↔ 0 ≤ d ∧ d < c.Days := by
  have h1 := o.h1
  have m1 := o.m1
  have s1 := o.s1
  have mb := o.mb d
  have hs : 1 ≤ secsR c d (minOf c (at0 d)) := by unfold secsR; split <;> omega
  simp only [validR, Bool.and_eq_true, wi_iff, at0] at hs ⊢
  constructor
  · rintro ⟨⟨⟨⟨a, b⟩, _⟩, _⟩, _⟩; omega
  · intro h
    exact ⟨⟨⟨⟨by omega, by omega⟩, by omega, by omega⟩, by omega, by omega⟩, by omega, by omega⟩
theorem at0_tick (c : Cal) {d : Int} : tickR c (at0 d) = begR c d.toNat := by simp [tickR, minOf, at0]
/-- The last reading of a day. -/
theorem last_read {c : Cal} (o : CalOk c) {d : Nat} (hd : d < c.Days.toNat) : begR c d + lenR c d - 1 < allR c ∧ 0 ≤ begR c d + lenR c d - 1 ∧ (readR c (begR c d + lenR c d - 1)).Day = d ∧ (readR c (begR c d + lenR c d - 1)).Hour = c.Hours - 1 ∧ (readR c (begR c d + lenR c d - 1)).Minute = c.Minutes - 1 := by
  have lb := o.lb d
  have hb := begR_b o d
  have hlt : begR c d + lenR c d - 1 < begR c (d + 1) := by rw [begR]; omega
  have hall : begR c d + lenR c d - 1 < allR c := by
    have := begR_mono o (d := d + 1) (e := c.Days.toNat) (by omega)
    unfold allR; omega
  obtain ⟨x1, x2, x3⟩ := dayR_spec o (t := begR c d + lenR c d - 1) (by omega) hall
  have hday : dayR c (begR c d + lenR c d - 1) = d := day_uniq o x2 x3 (by omega) hlt
  have hleft : leftR c (begR c d + lenR c d - 1) = lenR c d - 1 := by unfold leftR; rw [hday]; omega
  have w1 := o.w1
  have s1 := o.s1
  have M1 := o.m1
  have H1 := o.h1
  have mb := o.mb d
  have hmin : minR c (lenR c d - 1) = c.Hours * c.Minutes - 1 := by
    have : c.Hours * c.Minutes - 1 ≤ (lenR c d - 1) / c.Seconds := (Int.le_ediv_iff_mul_le (by omega)).2 (by unfold lenR; omega)
    unfold minR; rw [if_neg (by omega)]
  have hq : (c.Hours * c.Minutes - 1) / c.Minutes = c.Hours - 1 ∧ (c.Hours * c.Minutes - 1) % c.Minutes = c.Minutes - 1 := by
    refine (Int.ediv_emod_unique (show 0 < c.Minutes by omega)).2 ⟨?_, by omega, by omega⟩
    rw [Int.mul_sub, Int.mul_comm c.Minutes c.Hours]; omega
  refine ⟨hall, by omega, ?_⟩
  simp only [readR, hday, hleft, hmin, hq.1, hq.2]
  exact ⟨trivial, trivial, trivial⟩
/-! ### Without its last decree -/
theorem more_append : ∀ (l : List Decree) (x : Decree) (d : Int), moreR (l ++ [x]) d = moreR l d + (if x.Day = d then (if x.Plus then 1 else -1) else 0)
  | [], x, d => by simp [moreR]
  | y :: l, x, d => by rw [List.cons_append, moreR, moreR, more_append l x d]; omega
theorem climb_pre (n : Int) (x : Decree) : ∀ (l : List Decree) (least : Int), climbD n least (l ++ [x]) = true → climbD n least l = true ∧ least ≤ x.Day ∧ x.Day ≤ n - 1 ∧ ∀ d, x.Day ≤ d → moreR l d = 0
  | [], least, h => by
    simp only [List.nil_append, climbD, Bool.and_eq_true, wi_iff] at h
    exact ⟨rfl, h.1.1, h.1.2, fun d _ => rfl⟩
  | y :: l, least, h => by
    simp only [List.cons_append, climbD, Bool.and_eq_true, wi_iff] at h
    obtain ⟨g1, g2, g3, g4⟩ := climb_pre n x l (y.Day + 1) h.2
    refine ⟨by rw [climbD, (wi_iff _ _ _).2 h.1, g1]; rfl, by omega, g3, fun d hd => ?_⟩
    rw [moreR, if_neg (by omega), g4 d hd]; rfl
def cut (c : Cal) (l : List Decree) : Cal := ⟨c.Hours, c.Minutes, c.Seconds, c.Days, l⟩
structure CutOk (c : Cal) (l : List Decree) (x : Decree) (by_ : Int) : Prop where
  ok : okC (cut c l) = true
  d0 : 0 ≤ x.Day
  d1 : x.Day < c.Days
  len : ∀ d : Int, lenR c d = lenR (cut c l) d + if x.Day = d then by_ else 0
  lenx : lenR (cut c l) x.Day = c.Hours * c.Minutes * c.Seconds
  beg : ∀ e : Nat, begR c e = begR (cut c l) e + if x.Day < e then by_ else 0
theorem cut_ok {c : Cal} (h : okC c = true) {l : List Decree} {x : Decree} (hl : c.Decrees = l ++ [x]) : CutOk c l x (if x.Plus then 1 else -1) := by
  generalize hby : (if x.Plus = true then (1 : Int) else -1) = by_
  simp only [okC, headC, Bool.and_eq_true, decide_eq_true_eq] at h
  have hcl := h.2
  rw [hl] at hcl
  obtain ⟨g1, g2, g3, g4⟩ := climb_pre _ x l 0 hcl
  have hlen : ∀ d : Int, lenR c d = lenR (cut c l) d + if x.Day = d then by_ else 0 := fun d => by
    unfold lenR cut
    simp only
    rw [hl, more_append, hby]; omega
  refine ⟨?_, g2, by omega, hlen, ?_, fun e => ?_⟩
  · simp only [okC, headC, Bool.and_eq_true, decide_eq_true_eq, cut]
    have := h.1.2
    rw [hl] at this
    simp only [List.length_append, List.length_singleton] at this
    exact ⟨⟨h.1.1, decide_eq_true (by omega)⟩, g1⟩
  · unfold lenR cut
    simp only
    rw [g4 _ (Int.le_refl _)]; omega
  · induction e with
    | zero => simp [begR]; intro h; omega
    | succ e ih =>
      rw [begR, begR, ih, hlen]
      by_cases h1 : x.Day < (e : Int)
      · rw [if_pos h1, if_neg (by omega), if_pos (by omega)]; omega
      · by_cases h2 : x.Day = (e : Int)
        · rw [if_neg h1, if_pos h2, if_pos (by omega)]; omega
        · rw [if_neg h1, if_neg h2, if_neg (by omega)]; omega
/-- Up to the last second of that day nothing changes; behind it all is moved. -/
theorem cut_before {c : Cal} (h : okC c = true) {l : List Decree} {x : Decree} {by_ : Int} (k : CutOk c l x by_) (hby : by_ = 1 ∨ by_ = -1) {i : Int} (h0 : 0 ≤ i) (h1 : i < begR c x.Day.toNat + c.Hours * c.Minutes * c.Seconds + (if by_ = 1 then 0 else -1)) :
    i < allR c ∧ i < allR (cut c l) ∧ readR c i = readR (cut c l) i := by
  have o := okC_ok h
  have o' := okC_ok k.ok
  have hxn : ((x.Day.toNat : Nat) : Int) = x.Day := by have := k.d0; omega
  have hb := k.beg x.Day.toNat
  rw [hxn, if_neg (by omega)] at hb
  have hb1 := k.beg (x.Day.toNat + 1)
  rw [if_pos (by omega)] at hb1
  have lx := k.lenx
  have e1 : begR (cut c l) (x.Day.toNat + 1) = begR (cut c l) x.Day.toNat + c.Hours * c.Minutes * c.Seconds := by rw [begR, hxn, lx]
  have hdn : (x.Day.toNat + 1) ≤ c.Days.toNat := by have := k.d1; omega
  have ha := begR_mono o hdn
  have ha' := begR_mono o' (d := x.Day.toNat + 1) (e := (cut c l).Days.toNat) hdn
  have i1 : i < begR c (x.Day.toNat + 1) := by rcases hby with rfl | rfl <;> simp at h1 <;> omega
  have i2 : i < begR (cut c l) (x.Day.toNat + 1) := by rcases hby with rfl | rfl <;> simp at h1 <;> omega
  have hall : i < allR c := by unfold allR; omega
  have hall' : i < allR (cut c l) := by unfold allR; omega
  refine ⟨hall, hall', ?_⟩
  obtain ⟨x1, x2, x3⟩ := dayR_spec o h0 hall
  have hle : dayR c i ≤ x.Day.toNat := by
    by_cases hx : dayR c i ≤ x.Day.toNat
    · exact hx
    · have := begR_mono o (d := x.Day.toNat + 1) (e := dayR c i) (by omega); omega
  have y2 := k.beg (dayR c i)
  rw [if_neg (by omega)] at y2
  have y3 : i < begR (cut c l) (dayR c i + 1) := by
    by_cases hx : dayR c i = x.Day.toNat
    · rw [hx]; exact i2
    · have := k.beg (dayR c i + 1)
      rw [if_neg (by omega)] at this
      omega
  obtain ⟨z1, z2, z3⟩ := dayR_spec o' h0 hall'
  have hday : dayR (cut c l) i = dayR c i := day_uniq o' z2 z3 (by omega) y3
  have hleft : leftR (cut c l) i = leftR c i := by unfold leftR; rw [hday]; omega
  have hmin : minR (cut c l) (leftR c i) = minR c (leftR c i) := rfl
  unfold readR
  rw [hday, hleft, hmin]
  rfl
theorem cut_behind {c : Cal} (h : okC c = true) {l : List Decree} {x : Decree} {by_ : Int} (k : CutOk c l x by_) {i : Int} (h0 : begR c x.Day.toNat + lenR c x.Day ≤ i) (h1 : i < allR c) :
    0 ≤ i - by_ ∧ i - by_ < allR (cut c l) ∧ readR c i = readR (cut c l) (i - by_) := by
  have o := okC_ok h
  have o' := okC_ok k.ok
  have hxn : ((x.Day.toNat : Nat) : Int) = x.Day := by have := k.d0; omega
  have hb0 := begR_b o x.Day.toNat
  have hlb := o.lb x.Day
  have hbeg1 : begR c (x.Day.toNat + 1) = begR c x.Day.toNat + lenR c x.Day := by rw [begR, hxn]
  obtain ⟨x1, x2, x3⟩ := dayR_spec o (t := i) (by omega) h1
  have hgt : x.Day.toNat + 1 ≤ dayR c i := by
    by_cases hx : x.Day.toNat + 1 ≤ dayR c i
    · exact hx
    · have := begR_mono o (d := dayR c i + 1) (e := x.Day.toNat + 1) (by omega); omega
  have y2 := k.beg (dayR c i)
  rw [if_pos (by omega)] at y2
  have y3 := k.beg (dayR c i + 1)
  rw [if_pos (by omega)] at y3
  have ya := k.beg c.Days.toNat
  rw [if_pos (by have := k.d1; omega)] at ya
  have hb' := begR_b o' (dayR c i)
  have hall' : i - by_ < allR (cut c l) := by
    have : allR (cut c l) = begR (cut c l) c.Days.toNat := rfl
    rw [this]
    unfold allR at h1; omega
  have hnn : 0 ≤ i - by_ := by omega
  refine ⟨hnn, hall', ?_⟩
  obtain ⟨z1, z2, z3⟩ := dayR_spec o' hnn hall'
  have hday : dayR (cut c l) (i - by_) = dayR c i := day_uniq o' z2 z3 (by omega) (by omega)
  have hleft : leftR (cut c l) (i - by_) = leftR c i := by unfold leftR; rw [hday]; omega
  have hmin : minR (cut c l) (leftR c i) = minR c (leftR c i) := rfl
  unfold readR
  rw [hday, hleft, hmin]
  rfl
end Go.RS.DC

/- The chapter, as plain functions (5): later readings; the announcement. -/
namespace Go.RS.DC
open Go Go.RS
open Go.RS.Enc (enc dec)
def aheadB : List Int → List Int → Bool
  | [], [] => false
  | [], _ :: _ => true
  | _ :: _, [] => false
  | x :: a, y :: b => if x = y then aheadB a b else decide (x < y)
def listR (r : Reading) : List Int := [r.Day, r.Hour, r.Minute, r.Second]
theorem later_iff (a b : Reading) : aheadB (listR b) (listR a) = true ↔ laterP a b := by
  unfold listR laterP
  simp only [aheadB]
  by_cases h1 : b.Day = a.Day
  · rw [if_pos h1]
    by_cases h2 : b.Hour = a.Hour
    · rw [if_pos h2]
      by_cases h3 : b.Minute = a.Minute
      · rw [if_pos h3]
        by_cases h4 : b.Second = a.Second
        · rw [if_pos h4]; simp; omega
        · rw [if_neg h4]; simp; omega
      · rw [if_neg h3]; simp; omega
    · rw [if_neg h2]; simp; omega
  · rw [if_neg h1]; simp; omega
theorem next_again {c : Cal} {each t j k : Int} (h0 : t ≤ j) (hjk : j ≤ k) (hk : k < allR c) (h : nextL c each (allR c - t).toNat t = (k, 0)) : nextL c each (allR c - j).toNat j = (k, 0) := by
  rcases nextL_spec c each (allR c - t).toNat t with ⟨g1, _⟩ | ⟨k1, g1, g2, g3, g4, g5⟩
  · rw [g1] at h; simp at h
  · rw [g1] at h
    simp only [Prod.mk.injEq, and_true] at h
    subst h
    rcases nextL_spec c each (allR c - j).toNat j with ⟨f1, f2⟩ | ⟨k2, f1, f2, f3, f4, f5⟩
    · exact absurd g4 (f2 k1 hjk (by omega))
    · rw [f1]
      have : k2 = k1 := by
        by_cases h1 : k2 < k1
        · exact absurd f4 (g5 k2 (by omega) h1)
        · by_cases h2 : k1 < k2
          · exact absurd g4 (f5 k1 hjk h2)
          · omega
      rw [this]
theorem next_none {c : Cal} {each t j : Int} (h0 : t ≤ j) (hj : j < allR c) (h : nextL c each (allR c - t).toNat t = (0, 4)) : nextL c each (allR c - j).toNat j = (0, 4) := by
  rcases nextL_spec c each (allR c - t).toNat t with ⟨_, g2⟩ | ⟨k1, g1, _⟩
  · rcases nextL_spec c each (allR c - j).toNat j with ⟨f1, _⟩ | ⟨k2, f1, f2, f3, f4, _⟩
    · exact f1
    · exact absurd f4 (g2 k2 (by omega) (by omega))
  · rw [g1] at h; simp at h
/-- What is told lies near. -/
structure NextOk (c : Cal) (each t : Int) (r : Int × Int) : Prop where
  ok : (r.2 = 0 ∧ t ≤ r.1 ∧ r.1 < allR c ∧ r.1 ≤ t + c.Seconds + 1 ∧ (readR c r.1).Second % each = 0 ∧ ∀ j, t ≤ j → j < r.1 → (readR c j).Second % each ≠ 0) ∨
    (r = (0, 4) ∧ allR c ≤ t + c.Seconds + 1 ∧ ∀ j, t ≤ j → j < allR c → (readR c j).Second % each ≠ 0)
theorem next_ok {c : Cal} (o : CalOk c) {each t : Int} (h0 : 0 ≤ t) (h1 : t < allR c) : NextOk c each t (nextL c each (allR c - t).toNat t) := by
  obtain ⟨e, e1, e2, e3⟩ := minute_near o h0 h1
  rcases nextL_spec c each (allR c - t).toNat t with ⟨g1, g2⟩ | ⟨k, g1, g2, g3, g4, g5⟩
  · rw [g1]
    refine ⟨.inr ⟨rfl, ?_, fun j a b => g2 j a (by omega)⟩⟩
    rcases e3 with e3 | ⟨e3, e4⟩
    · omega
    · exact absurd (by rw [e4]; exact Int.zero_emod _) (g2 e (by omega) (by omega))
  · rw [g1]
    refine ⟨.inl ⟨rfl, g2, by omega, ?_, g4, g5⟩⟩
    by_cases hk : k ≤ e
    · show k ≤ _; omega
    · rcases e3 with e3 | ⟨e3, e4⟩
      · omega
      · exact absurd (by rw [e4]; exact Int.zero_emod _) (g5 e (by omega) (by omega))
def fromR (s : Span) (n : Int) : Int := if s.High ≤ s.Low then s.Low else s.Low + n % (s.High - s.Low + 1)
theorem fromR_b (s : Span) (n : Int) (h : s.Low ≤ s.High) : s.Low ≤ fromR s n ∧ fromR s n ≤ s.High := by
  unfold fromR
  split
  · omega
  · have := Int.emod_nonneg n (show s.High - s.Low + 1 ≠ 0 by omega)
    have := Int.emod_lt_of_pos n (show 0 < s.High - s.Low + 1 by omega)
    omega
/-- Local readings before the last change. -/
theorem ahead_cut : ∀ (l : List Change) (x : Change) (n k : Int), k < x.Tick → aheadL n (l ++ [x]) k = aheadL n l k
  | [], x, n, k, h => by simp only [List.nil_append, aheadL]; rw [if_neg (by omega)]
  | y :: l, x, n, k, h => by simp only [List.cons_append, aheadL]; exact ahead_cut l x _ k h
theorem chg_cut (all : Int) : ∀ (l : List Change) (x : Change) (last : Int), chgOk all last (l ++ [x]) = true → chgOk all last l = true ∧ last < x.Tick ∧ x.Tick < all
  | [], x, last, h => by
    simp only [List.nil_append, chgOk, Bool.and_eq_true, wi_iff] at h
    exact ⟨rfl, by omega, by omega⟩
  | y :: l, x, last, h => by
    simp only [List.cons_append, chgOk, Bool.and_eq_true, wi_iff] at h
    obtain ⟨g1, g2, g3⟩ := chg_cut all l x y.Tick h.2
    refine ⟨?_, by omega, g3⟩
    rw [chgOk, (wi_iff _ _ _).2 h.1.1, (wi_iff _ _ _).2 h.1.2, g1]; rfl
def risesL : Int → List Change → Bool
  | _, [] => true
  | n, x :: l => decide (n ≤ x.Ahead) && risesL x.Ahead l
theorem rises_mono : ∀ (l : List Change) (n : Int) (j k : Int) (all last : Int), chgOk all last l = true → risesL n l = true → j ≤ k → aheadL n l j ≤ aheadL n l k ∧ n ≤ aheadL n l k
  | [], n, j, k, _, _, _, _, _ => ⟨Int.le_refl _, Int.le_refl _⟩
  | x :: l, n, j, k, all, last, hc, hr, h => by
    simp only [risesL, Bool.and_eq_true, decide_eq_true_eq] at hr
    simp only [chgOk, Bool.and_eq_true, wi_iff] at hc
    rw [aheadL, aheadL]
    by_cases hj : x.Tick ≤ j
    · rw [if_pos hj, if_pos (by omega)]
      have := rises_mono l x.Ahead j k all x.Tick hc.2 hr.2 h
      omega
    · rw [if_neg hj, aheadL_before l all n x.Tick j hc.2 (by omega)]
      by_cases hk : x.Tick ≤ k
      · rw [if_pos hk]
        have := rises_mono l x.Ahead j k all x.Tick hc.2 hr.2 h
        omega
      · rw [if_neg hk, aheadL_before l all n x.Tick k hc.2 (by omega)]
        omega
end Go.RS.DC

/- The chapter, as plain functions (6): all ticks of a local reading, one after the other. -/
namespace Go.RS.DC
open Go Go.RS
open Go.RS.Enc (enc dec)
def okTick (c : Cal) (t : Town) (r : Reading) (out : List Int) (n : Int) : Bool :=
  validR c (movedR c r (-n)) && decide (localR c t (tickR c (movedR c r (-n))) = r) && !(out.contains (tickR c (movedR c r (-n))))
def collL (c : Cal) (t : Town) (r : Reading) : List Int → List Int → List Int
  | out, [] => out
  | out, n :: l => collL c t r (if okTick c t r out n then out ++ [tickR c (movedR c r (-n))] else out) l
def aheadsOf (t : Town) : List Int := t.Ahead :: t.Changes.map (·.Ahead)
theorem mem_collL {c : Cal} {t : Town} {r : Reading} {k : Int} : ∀ (l out : List Int), k ∈ collL c t r out l ↔ k ∈ out ∨ ∃ n ∈ l, validR c (movedR c r (-n)) = true ∧ tickR c (movedR c r (-n)) = k ∧ localR c t k = r
  | [], out => by simp [collL]
  | n :: l, out => by
    rw [collL, mem_collL l]
    by_cases h : okTick c t r out n = true
    · rw [if_pos h]
      simp only [okTick, Bool.and_eq_true, decide_eq_true_eq, Bool.not_eq_true', List.mem_append, List.mem_singleton] at h ⊢
      constructor
      · rintro ((h1 | rfl) | ⟨m, hm, h1⟩)
        · exact .inl h1
        · exact .inr ⟨n, by simp, h.1.1, rfl, h.1.2⟩
        · exact .inr ⟨m, by simp [hm], h1⟩
      · rintro (h1 | ⟨m, hm, h1, h2, h3⟩)
        · exact .inl (.inl h1)
        · rcases List.mem_cons.1 hm with rfl | hm
          · exact .inl (.inr h2.symm)
          · exact .inr ⟨m, hm, h1, h2, h3⟩
    · rw [if_neg h]
      constructor
      · rintro (h1 | ⟨m, hm, h1⟩)
        · exact .inl h1
        · exact .inr ⟨m, by simp [hm], h1⟩
      · rintro (h1 | ⟨m, hm, h1, h2, h3⟩)
        · exact .inl h1
        · rcases List.mem_cons.1 hm with rfl | hm
          · simp only [okTick, Bool.and_eq_true, decide_eq_true_eq, Bool.not_eq_true', h1, true_and, h2, h3] at h
            left
            have : out.contains k = true := by cases hx : out.contains k <;> simp_all
            simpa using this
          · exact .inr ⟨m, hm, h1, h2, h3⟩
theorem collL_nodup {c : Cal} {t : Town} {r : Reading} : ∀ (l out : List Int), out.Nodup → (collL c t r out l).Nodup
  | [], out, h => h
  | n :: l, out, h => by
    rw [collL]
    refine collL_nodup l _ ?_
    split
    · rename_i ho
      simp only [okTick, Bool.and_eq_true, Bool.not_eq_true'] at ho
      have : tickR c (movedR c r (-n)) ∉ out := by simpa using ho.2
      rw [List.nodup_append]
      exact ⟨h, by simp, fun a ha b hb => by rw [List.mem_singleton] at hb; subst hb; exact fun e => this (e ▸ ha)⟩
    · exact h
theorem aheadL_mem : ∀ (l : List Change) (n k : Int), aheadL n l k = n ∨ aheadL n l k ∈ l.map (·.Ahead)
  | [], _, _ => .inl rfl
  | x :: l, n, k => by
    rw [aheadL]
    rcases aheadL_mem l (if x.Tick ≤ k then x.Ahead else n) k with h | h
    · split at h
      · right; split
        · rw [h]; simp
        · contradiction
      · rename_i hx; rw [if_neg hx]; exact .inl h
    · right; simp only [List.map_cons, List.mem_cons]; exact .inr h
theorem mem_coll {c : Cal} (o : CalOk c) {t : Town} (ot : TownOk c t) {r : Reading} (hr : properR c r = true) (k : Int) : k ∈ collL c t r [] (aheadsOf t) ↔ k ∈ ticksR c t r := by
  rw [mem_collL, mem_ticksR o ot r k]
  constructor
  · rintro (h | ⟨n, _, h1, h2, h3⟩)
    · cases h
    · have := tick_read o h1
      rw [h2] at this
      exact ⟨this.1, by omega, h3⟩
  · rintro ⟨h0, h1, h2⟩
    right
    refine ⟨aheadL t.Ahead t.Changes k, ?_, ?_⟩
    · unfold aheadsOf
      rcases aheadL_mem t.Changes t.Ahead k with h | h
      · rw [h]; simp
      · exact List.mem_cons_of_mem _ h
    · have h3 := (moved_back o (read_proper o h0 h1) hr (aheadL t.Ahead t.Changes k)).1 h2
      have hv := read_valid o h0 h1
      rw [← h3]
      exact ⟨hv.1, hv.2.1, h2⟩
/-- What is sorted of it. -/
theorem coll_sorted {c : Cal} (o : CalOk c) {t : Town} (ot : TownOk c t) {r : Reading} (hr : properR c r = true) {l : List Int} (hp : l.Perm (collL c t r [] (aheadsOf t))) (hs : l.Pairwise (· ≤ ·)) : l = ticksR c t r := by
  have hn : l.Nodup := hp.symm.nodup (collL_nodup _ _ .nil)
  refine sorted_ext ?_ (ticksR_sorted o ot r) fun k => by rw [hp.mem_iff, mem_coll o ot hr]
  have := List.Pairwise.and hs hn
  exact this.imp fun h => by omega
theorem collL_len {c : Cal} {t : Town} {r : Reading} : ∀ (l out : List Int), (collL c t r out l).length ≤ out.length + l.length
  | [], out => by simp [collL]
  | n :: l, out => by
    rw [collL]
    split
    · have := collL_len (c := c) (t := t) (r := r) l (out ++ [tickR c (movedR c r (-n))])
      simp at this ⊢; omega
    · have := collL_len (c := c) (t := t) (r := r) l out
      simp at this ⊢; omega
end Go.RS.DC

/- The chapter, as plain functions (7): readings that were met. -/
namespace Go.RS.DC
open Go Go.RS
open Go.RS.Enc (enc dec)
/-- The readings met before a tick, each with its first tick. -/
def metL (c : Cal) (t : Town) : Nat → List (Reading × Int)
  | 0 => []
  | k + 1 => if (metL c t k).any (fun p => decide (p.1 = localR c t k)) then metL c t k else metL c t k ++ [(localR c t k, (k : Int))]
theorem metL_iff (c : Cal) (t : Town) (r : Reading) : ∀ k : Nat, (∃ p ∈ metL c t k, p.1 = r) ↔ ∃ j : Int, 0 ≤ j ∧ j < k ∧ localR c t j = r
  | 0 => by simp [metL]; intro j; omega
  | k + 1 => by
    have ih := metL_iff c t r k
    rw [metL]
    split
    · rename_i h
      simp only [List.any_eq_true, decide_eq_true_eq] at h
      rw [ih]
      constructor
      · rintro ⟨j, h0, h1, h2⟩; exact ⟨j, h0, by omega, h2⟩
      · rintro ⟨j, h0, h1, h2⟩
        by_cases hj : j < k
        · exact ⟨j, h0, hj, h2⟩
        · have : j = (k : Int) := by omega
          subst this
          rw [h2] at h
          exact ih.1 h
    · constructor
      · rintro ⟨p, hp, he⟩
        rcases List.mem_append.1 hp with hp | hp
        · obtain ⟨j, h0, h1, h2⟩ := ih.1 ⟨p, hp, he⟩; exact ⟨j, h0, by omega, h2⟩
        · rw [List.mem_singleton] at hp; subst hp; exact ⟨k, by omega, by omega, he⟩
      · rintro ⟨j, h0, h1, h2⟩
        by_cases hj : j < k
        · obtain ⟨p, hp, he⟩ := ih.2 ⟨j, h0, hj, h2⟩
          exact ⟨p, by simp [hp], he⟩
        · have : j = (k : Int) := by omega
          subst this
          exact ⟨_, List.mem_append_right _ (List.mem_singleton.2 rfl), h2⟩
theorem metL_lt (c : Cal) (t : Town) : ∀ (k : Nat), ∀ p ∈ metL c t k, 0 ≤ p.2 ∧ p.2 < k
  | 0, p, hp => by cases hp
  | k + 1, p, hp => by
    rw [metL] at hp
    split at hp
    · have := metL_lt c t k p hp; omega
    · rcases List.mem_append.1 hp with hp | hp
      · have := metL_lt c t k p hp; omega
      · rw [List.mem_singleton] at hp; subst hp; simp; omega
theorem met_twice {c : Cal} (o : CalOk c) {t : Town} (ot : TownOk c t) {k : Nat} (h1 : (k : Int) < allR c) : (metL c t k).any (fun p => decide (p.1 = localR c t k)) = twiceB c t k := by
  rw [Bool.eq_iff_iff, twiceB_iff o ot h1, ← metL_iff c t (localR c t k) k]
  simp only [List.any_eq_true, decide_eq_true_eq]
theorem met_split (r : Reading) : ∀ ps : List (Reading × Int), (ps.any (fun p => decide (p.1 = r)) = false ∧ ∀ p ∈ ps, p.1 ≠ r) ∨ (ps.any (fun p => decide (p.1 = r)) = true ∧ ∃ a p c, ps = a ++ p :: c ∧ p.1 = r ∧ ∀ x ∈ a, x.1 ≠ r)
  | [] => .inl ⟨rfl, by simp⟩
  | p :: l => by
    by_cases hp : p.1 = r
    · exact .inr ⟨by simp [hp], [], p, l, rfl, hp, by simp⟩
    · rcases met_split r l with ⟨h1, h2⟩ | ⟨h1, a, q, d, rfl, h3, h4⟩
      · refine .inl ⟨by rw [List.any_cons, h1]; simp [hp], fun x hx => ?_⟩
        rcases List.mem_cons.1 hx with rfl | hx
        · exact hp
        · exact h2 x hx
      · refine .inr ⟨by rw [List.any_cons, h1]; simp, p :: a, q, d, rfl, h3, fun x hx => ?_⟩
        rcases List.mem_cons.1 hx with rfl | hx
        · exact hp
        · exact h4 x hx
end Go.RS.DC

