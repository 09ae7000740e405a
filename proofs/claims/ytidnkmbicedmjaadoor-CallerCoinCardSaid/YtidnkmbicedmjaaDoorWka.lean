/- Kinds of data of the chapter. -/
import Derived.Test.YtidnkmbicedmjaaDoorPvc
import Derived.Test.YtidnkmbicedmjaaDoorCC
set_option linter.all false
namespace Go.RS.CC
open Go Go.RS
open Go.RS.Enc (enc dec)
@[simp] theorem t_eq (n : Nat) : t n = Opd.t n := rfl
structure Call where
  At : Int
  Wait : Int
  Hear : Int
  From : Int
  deriving DecidableEq
instance elCall : El Call where
  sz := 4
  cells x := [enc x.At, enc x.Wait, enc x.Hear, enc x.From]
  un cs := match cs with | [v0, v1, v2, v3] => (dec v0).bind fun a0 => (dec v1).bind fun a1 => (dec v2).bind fun a2 => (dec v3).bind fun a3 => some ⟨a0, a1, a2, a3⟩ | _ => none
  len _ := rfl
  un_le := by
    intro cs a h
    split at h
    · simp only [Option.bind_eq_some_iff, Option.some.injEq] at h
      obtain ⟨x0, h0, x1, h1, x2, h2, x3, h3, rfl⟩ := h
      exact ⟨Enc.dec_le h0, Enc.dec_le h1, Enc.dec_le h2, Enc.dec_le h3, trivial⟩
    · cases h
  un_cells x := by simp only [Enc.dec_enc, Option.bind_some]
  isF x := by simp only [PV.isFL, Bool.and_eq_true, and_true]; exact ⟨rfl, rfl, rfl, rfl⟩
instance encCall : Enc Call := encOfEl Call
@[simp] theorem sz_Call : El.sz Call = 4 := rfl
@[simp] theorem cells_Call (x : Call) : El.cells x = [enc x.At, enc x.Wait, enc x.Hear, enc x.From] := rfl
@[simp] theorem enc_Call (x : Call) : enc x = PV.agg [enc x.At, enc x.Wait, enc x.Hear, enc x.From] := rfl
@[simp] theorem dec_Call (v0 v1 v2 v3 : PV) : (dec (PV.agg [v0, v1, v2, v3]) : Option Call) = (dec v0).bind fun a0 => (dec v1).bind fun a1 => (dec v2).bind fun a2 => (dec v3).bind fun a3 => some ⟨a0, a1, a2, a3⟩ := rfl
@[simp] theorem eta_Call (x : Call) : (Call.mk x.At x.Wait x.Hear x.From) = x := rfl
@[simp] theorem decl_Call (ex : Bool) (q : Nat) (l : List Call) (h : q = l.length) : (dec (PV.lst ex q 4 (encL l)) : Option (List Call)) = some l := by subst h; exact dec_lst ex l
theorem get_Call (l : List Call) (k : Nat) (h : k < l.length) : List.drop (k * 4) (encL l) = [enc l[k].At, enc l[k].Wait, enc l[k].Hear, enc l[k].From] ++ encL (l.drop (k + 1)) := encL_get l k h
theorem take_Call (l : List Call) (k : Nat) : List.take (k * 4) (encL l) = encL (l.take k) := encL_take l k
theorem drop_Call (l : List Call) (k : Nat) : List.drop (k * 4) (encL l) = encL (l.drop k) := encL_drop l k
theorem snoc_Call (l : List Call) (x : Call) : encL l ++ [enc x.At, enc x.Wait, enc x.Hear, enc x.From] = encL (l ++ [x]) := encL_snoc l x
@[simp] theorem decf_Call (M : VM) (t : Nat) (out : List Call) (h : M[t]? = some (.vec (encL out))) : (dec (fzSl M t (out.length * 4) 0 out.length (openCap + 4) 4) : Option (List Call)) = some out := dec_fzSl M t out h (by decide)
@[simp] theorem lef_Call (M : VM) (t : Nat) (out : List Call) (h : M[t]? = some (.vec (encL out))) : (fzSl M t (out.length * 4) 0 out.length (openCap + 4) 4).le (.lst false out.length 4 (encL out)) = True := le_fzSl M t out h (by decide)
theorem app_Call (M : VM) (t bytes : Nat) (out : List Call) (x : Call) (h : M[t]? = some (.vec (encL out))) (hf : fits (out.length + 1) bytes = true) :
    appendV M 4 bytes (.sl t (out.length * 4) 0 out.length (openCap + 4) 4) (.lst true 1 4 [PV.int .i64 x.At, PV.int .i64 x.Wait, PV.int .i64 x.Hear, PV.int .i64 x.From]) = some (.sl t ((out.length + 1) * 4) 0 (out.length + 1) (openCap + 4) 4, M.set t (.vec (encL (out ++ [x])))) := append_one M t bytes out x h (by decide) hf rfl
theorem beq_Call (x y : Call) : (x.At == y.At && (x.Wait == y.Wait && (x.Hear == y.Hear && (x.From == y.From)))) = decide (x = y) := by
  rw [Bool.eq_iff_iff]
  constructor
  · intro h
    simp only [Bool.and_eq_true, beq_iff_eq] at h
    obtain ⟨h0, h1, h2, h3⟩ := h
    rw [decide_eq_true_eq, ← eta_Call x, ← eta_Call y, h0, h1, h2, h3]
  · intro h
    rw [decide_eq_true_eq] at h; subst h; simp

structure Served where
  Joined : Int
  Left : Int
  Channel : Int
  deriving DecidableEq
instance elServed : El Served where
  sz := 3
  cells x := [enc x.Joined, enc x.Left, enc x.Channel]
  un cs := match cs with | [v0, v1, v2] => (dec v0).bind fun a0 => (dec v1).bind fun a1 => (dec v2).bind fun a2 => some ⟨a0, a1, a2⟩ | _ => none
  len _ := rfl
  un_le := by
    intro cs a h
    split at h
    · simp only [Option.bind_eq_some_iff, Option.some.injEq] at h
      obtain ⟨x0, h0, x1, h1, x2, h2, rfl⟩ := h
      exact ⟨Enc.dec_le h0, Enc.dec_le h1, Enc.dec_le h2, trivial⟩
    · cases h
  un_cells x := by simp only [Enc.dec_enc, Option.bind_some]
  isF x := by simp only [PV.isFL, Bool.and_eq_true, and_true]; exact ⟨rfl, rfl, rfl⟩
instance encServed : Enc Served := encOfEl Served
@[simp] theorem sz_Served : El.sz Served = 3 := rfl
@[simp] theorem cells_Served (x : Served) : El.cells x = [enc x.Joined, enc x.Left, enc x.Channel] := rfl
@[simp] theorem enc_Served (x : Served) : enc x = PV.agg [enc x.Joined, enc x.Left, enc x.Channel] := rfl
@[simp] theorem dec_Served (v0 v1 v2 : PV) : (dec (PV.agg [v0, v1, v2]) : Option Served) = (dec v0).bind fun a0 => (dec v1).bind fun a1 => (dec v2).bind fun a2 => some ⟨a0, a1, a2⟩ := rfl
@[simp] theorem eta_Served (x : Served) : (Served.mk x.Joined x.Left x.Channel) = x := rfl
@[simp] theorem decl_Served (ex : Bool) (q : Nat) (l : List Served) (h : q = l.length) : (dec (PV.lst ex q 3 (encL l)) : Option (List Served)) = some l := by subst h; exact dec_lst ex l
theorem get_Served (l : List Served) (k : Nat) (h : k < l.length) : List.drop (k * 3) (encL l) = [enc l[k].Joined, enc l[k].Left, enc l[k].Channel] ++ encL (l.drop (k + 1)) := encL_get l k h
theorem take_Served (l : List Served) (k : Nat) : List.take (k * 3) (encL l) = encL (l.take k) := encL_take l k
theorem drop_Served (l : List Served) (k : Nat) : List.drop (k * 3) (encL l) = encL (l.drop k) := encL_drop l k
theorem snoc_Served (l : List Served) (x : Served) : encL l ++ [enc x.Joined, enc x.Left, enc x.Channel] = encL (l ++ [x]) := encL_snoc l x
@[simp] theorem decf_Served (M : VM) (t : Nat) (out : List Served) (h : M[t]? = some (.vec (encL out))) : (dec (fzSl M t (out.length * 3) 0 out.length (openCap + 3) 3) : Option (List Served)) = some out := dec_fzSl M t out h (by decide)
@[simp] theorem lef_Served (M : VM) (t : Nat) (out : List Served) (h : M[t]? = some (.vec (encL out))) : (fzSl M t (out.length * 3) 0 out.length (openCap + 3) 3).le (.lst false out.length 3 (encL out)) = True := le_fzSl M t out h (by decide)
theorem app_Served (M : VM) (t bytes : Nat) (out : List Served) (x : Served) (h : M[t]? = some (.vec (encL out))) (hf : fits (out.length + 1) bytes = true) :
    appendV M 3 bytes (.sl t (out.length * 3) 0 out.length (openCap + 3) 3) (.lst true 1 3 [PV.int .i64 x.Joined, PV.int .i64 x.Left, PV.int .i64 x.Channel]) = some (.sl t ((out.length + 1) * 3) 0 (out.length + 1) (openCap + 3) 3, M.set t (.vec (encL (out ++ [x])))) := append_one M t bytes out x h (by decide) hf rfl
theorem beq_Served (x y : Served) : (x.Joined == y.Joined && (x.Left == y.Left && (x.Channel == y.Channel))) = decide (x = y) := by
  rw [Bool.eq_iff_iff]
  constructor
  · intro h
    simp only [Bool.and_eq_true, beq_iff_eq] at h
    obtain ⟨h0, h1, h2⟩ := h
    rw [decide_eq_true_eq, ← eta_Served x, ← eta_Served y, h0, h1, h2]
  · intro h
    rw [decide_eq_true_eq] at h; subst h; simp

structure Span where
  Low : Int
  High : Int
  deriving DecidableEq
instance elSpan : El Span where
  sz := 2
  cells x := [enc x.Low, enc x.High]
  un cs := match cs with | [v0, v1] => (dec v0).bind fun a0 => (dec v1).bind fun a1 => some ⟨a0, a1⟩ | _ => none
  len _ := rfl
  un_le := by
    intro cs a h
    split at h
    · simp only [Option.bind_eq_some_iff, Option.some.injEq] at h
      obtain ⟨x0, h0, x1, h1, rfl⟩ := h
      exact ⟨Enc.dec_le h0, Enc.dec_le h1, trivial⟩
    · cases h
  un_cells x := by simp only [Enc.dec_enc, Option.bind_some]
  isF x := by simp only [PV.isFL, Bool.and_eq_true, and_true]; exact ⟨rfl, rfl⟩
instance encSpan : Enc Span := encOfEl Span
@[simp] theorem sz_Span : El.sz Span = 2 := rfl
@[simp] theorem cells_Span (x : Span) : El.cells x = [enc x.Low, enc x.High] := rfl
@[simp] theorem enc_Span (x : Span) : enc x = PV.agg [enc x.Low, enc x.High] := rfl
@[simp] theorem dec_Span (v0 v1 : PV) : (dec (PV.agg [v0, v1]) : Option Span) = (dec v0).bind fun a0 => (dec v1).bind fun a1 => some ⟨a0, a1⟩ := rfl
@[simp] theorem eta_Span (x : Span) : (Span.mk x.Low x.High) = x := rfl
@[simp] theorem decl_Span (ex : Bool) (q : Nat) (l : List Span) (h : q = l.length) : (dec (PV.lst ex q 2 (encL l)) : Option (List Span)) = some l := by subst h; exact dec_lst ex l
theorem get_Span (l : List Span) (k : Nat) (h : k < l.length) : List.drop (k * 2) (encL l) = [enc l[k].Low, enc l[k].High] ++ encL (l.drop (k + 1)) := encL_get l k h
theorem take_Span (l : List Span) (k : Nat) : List.take (k * 2) (encL l) = encL (l.take k) := encL_take l k
theorem drop_Span (l : List Span) (k : Nat) : List.drop (k * 2) (encL l) = encL (l.drop k) := encL_drop l k
theorem snoc_Span (l : List Span) (x : Span) : encL l ++ [enc x.Low, enc x.High] = encL (l ++ [x]) := encL_snoc l x
@[simp] theorem decf_Span (M : VM) (t : Nat) (out : List Span) (h : M[t]? = some (.vec (encL out))) : (dec (fzSl M t (out.length * 2) 0 out.length (openCap + 2) 2) : Option (List Span)) = some out := dec_fzSl M t out h (by decide)
@[simp] theorem lef_Span (M : VM) (t : Nat) (out : List Span) (h : M[t]? = some (.vec (encL out))) : (fzSl M t (out.length * 2) 0 out.length (openCap + 2) 2).le (.lst false out.length 2 (encL out)) = True := le_fzSl M t out h (by decide)
theorem app_Span (M : VM) (t bytes : Nat) (out : List Span) (x : Span) (h : M[t]? = some (.vec (encL out))) (hf : fits (out.length + 1) bytes = true) :
    appendV M 2 bytes (.sl t (out.length * 2) 0 out.length (openCap + 2) 2) (.lst true 1 2 [PV.int .i64 x.Low, PV.int .i64 x.High]) = some (.sl t ((out.length + 1) * 2) 0 (out.length + 1) (openCap + 2) 2, M.set t (.vec (encL (out ++ [x])))) := append_one M t bytes out x h (by decide) hf rfl
theorem beq_Span (x y : Span) : (x.Low == y.Low && (x.High == y.High)) = decide (x = y) := by
  rw [Bool.eq_iff_iff]
  constructor
  · intro h
    simp only [Bool.and_eq_true, beq_iff_eq] at h
    obtain ⟨h0, h1⟩ := h
    rw [decide_eq_true_eq, ← eta_Span x, ← eta_Span y, h0, h1]
  · intro h
    rw [decide_eq_true_eq] at h; subst h; simp

structure Book where
  Each : Int
  Fee : Int
  Rate : Int
  Unit : Int
  Shares : (List Int)
  Hours : (List (List Call))
  deriving DecidableEq
instance elBook : El Book where
  sz := 6
  cells x := [enc x.Each, enc x.Fee, enc x.Rate, enc x.Unit, enc x.Shares, enc x.Hours]
  un cs := match cs with | [v0, v1, v2, v3, v4, v5] => (dec v0).bind fun a0 => (dec v1).bind fun a1 => (dec v2).bind fun a2 => (dec v3).bind fun a3 => (dec v4).bind fun a4 => (dec v5).bind fun a5 => some ⟨a0, a1, a2, a3, a4, a5⟩ | _ => none
  len _ := rfl
  un_le := by
    intro cs a h
    split at h
    · simp only [Option.bind_eq_some_iff, Option.some.injEq] at h
      obtain ⟨x0, h0, x1, h1, x2, h2, x3, h3, x4, h4, x5, h5, rfl⟩ := h
      exact ⟨Enc.dec_le h0, Enc.dec_le h1, Enc.dec_le h2, Enc.dec_le h3, Enc.dec_le h4, Enc.dec_le h5, trivial⟩
    · cases h
  un_cells x := by simp only [Enc.dec_enc, Option.bind_some]
  isF x := by simp only [PV.isFL, Bool.and_eq_true, and_true]; exact ⟨rfl, rfl, rfl, rfl, rfl, rfl⟩
instance encBook : Enc Book := encOfEl Book
@[simp] theorem sz_Book : El.sz Book = 6 := rfl
@[simp] theorem cells_Book (x : Book) : El.cells x = [enc x.Each, enc x.Fee, enc x.Rate, enc x.Unit, enc x.Shares, enc x.Hours] := rfl
@[simp] theorem enc_Book (x : Book) : enc x = PV.agg [enc x.Each, enc x.Fee, enc x.Rate, enc x.Unit, enc x.Shares, enc x.Hours] := rfl
@[simp] theorem dec_Book (v0 v1 v2 v3 v4 v5 : PV) : (dec (PV.agg [v0, v1, v2, v3, v4, v5]) : Option Book) = (dec v0).bind fun a0 => (dec v1).bind fun a1 => (dec v2).bind fun a2 => (dec v3).bind fun a3 => (dec v4).bind fun a4 => (dec v5).bind fun a5 => some ⟨a0, a1, a2, a3, a4, a5⟩ := rfl
@[simp] theorem eta_Book (x : Book) : (Book.mk x.Each x.Fee x.Rate x.Unit x.Shares x.Hours) = x := rfl
@[simp] theorem decl_Book (ex : Bool) (q : Nat) (l : List Book) (h : q = l.length) : (dec (PV.lst ex q 6 (encL l)) : Option (List Book)) = some l := by subst h; exact dec_lst ex l
theorem get_Book (l : List Book) (k : Nat) (h : k < l.length) : List.drop (k * 6) (encL l) = [enc l[k].Each, enc l[k].Fee, enc l[k].Rate, enc l[k].Unit, enc l[k].Shares, enc l[k].Hours] ++ encL (l.drop (k + 1)) := encL_get l k h
theorem take_Book (l : List Book) (k : Nat) : List.take (k * 6) (encL l) = encL (l.take k) := encL_take l k
theorem drop_Book (l : List Book) (k : Nat) : List.drop (k * 6) (encL l) = encL (l.drop k) := encL_drop l k
theorem snoc_Book (l : List Book) (x : Book) : encL l ++ [enc x.Each, enc x.Fee, enc x.Rate, enc x.Unit, enc x.Shares, enc x.Hours] = encL (l ++ [x]) := encL_snoc l x
@[simp] theorem decf_Book (M : VM) (t : Nat) (out : List Book) (h : M[t]? = some (.vec (encL out))) : (dec (fzSl M t (out.length * 6) 0 out.length (openCap + 6) 6) : Option (List Book)) = some out := dec_fzSl M t out h (by decide)
@[simp] theorem lef_Book (M : VM) (t : Nat) (out : List Book) (h : M[t]? = some (.vec (encL out))) : (fzSl M t (out.length * 6) 0 out.length (openCap + 6) 6).le (.lst false out.length 6 (encL out)) = True := le_fzSl M t out h (by decide)
theorem app_Book (M : VM) (t bytes : Nat) (out : List Book) (x : Book) (h : M[t]? = some (.vec (encL out))) (hf : fits (out.length + 1) bytes = true) :
    appendV M 6 bytes (.sl t (out.length * 6) 0 out.length (openCap + 6) 6) (.lst true 1 6 [PV.int .i64 x.Each, PV.int .i64 x.Fee, PV.int .i64 x.Rate, PV.int .i64 x.Unit, PV.lst false (x.Shares).length 1 (encL x.Shares), PV.lst false (x.Hours).length 1 (encL x.Hours)]) = some (.sl t ((out.length + 1) * 6) 0 (out.length + 1) (openCap + 6) 6, M.set t (.vec (encL (out ++ [x])))) := append_one M t bytes out x h (by decide) hf rfl

structure Hour where
  book : Book
  calls : (List Call)
  channels : Int
  deriving DecidableEq
instance elHour : El Hour where
  sz := 8
  cells x := [enc x.book.Each, enc x.book.Fee, enc x.book.Rate, enc x.book.Unit, enc x.book.Shares, enc x.book.Hours, enc x.calls, enc x.channels]
  un cs := match cs with | [v0, v1, v2, v3, v4, v5, v6, v7] => (dec v0).bind fun a0 => (dec v1).bind fun a1 => (dec v2).bind fun a2 => (dec v3).bind fun a3 => (dec v4).bind fun a4 => (dec v5).bind fun a5 => (dec v6).bind fun a6 => (dec v7).bind fun a7 => some ⟨⟨a0, a1, a2, a3, a4, a5⟩, a6, a7⟩ | _ => none
  len _ := rfl
  un_le := by
    intro cs a h
    split at h
    · simp only [Option.bind_eq_some_iff, Option.some.injEq] at h
      obtain ⟨x0, h0, x1, h1, x2, h2, x3, h3, x4, h4, x5, h5, x6, h6, x7, h7, rfl⟩ := h
      exact ⟨Enc.dec_le h0, Enc.dec_le h1, Enc.dec_le h2, Enc.dec_le h3, Enc.dec_le h4, Enc.dec_le h5, Enc.dec_le h6, Enc.dec_le h7, trivial⟩
    · cases h
  un_cells x := by simp only [Enc.dec_enc, Option.bind_some]
  isF x := by simp only [PV.isFL, Bool.and_eq_true, and_true]; exact ⟨rfl, rfl, rfl, rfl, rfl, rfl, rfl, rfl⟩
instance encHour : Enc Hour := encOfEl Hour
@[simp] theorem sz_Hour : El.sz Hour = 8 := rfl
@[simp] theorem cells_Hour (x : Hour) : El.cells x = [enc x.book.Each, enc x.book.Fee, enc x.book.Rate, enc x.book.Unit, enc x.book.Shares, enc x.book.Hours, enc x.calls, enc x.channels] := rfl
@[simp] theorem enc_Hour (x : Hour) : enc x = PV.agg [enc x.book.Each, enc x.book.Fee, enc x.book.Rate, enc x.book.Unit, enc x.book.Shares, enc x.book.Hours, enc x.calls, enc x.channels] := rfl
@[simp] theorem dec_Hour (v0 v1 v2 v3 v4 v5 v6 v7 : PV) : (dec (PV.agg [v0, v1, v2, v3, v4, v5, v6, v7]) : Option Hour) = (dec v0).bind fun a0 => (dec v1).bind fun a1 => (dec v2).bind fun a2 => (dec v3).bind fun a3 => (dec v4).bind fun a4 => (dec v5).bind fun a5 => (dec v6).bind fun a6 => (dec v7).bind fun a7 => some ⟨⟨a0, a1, a2, a3, a4, a5⟩, a6, a7⟩ := rfl
@[simp] theorem eta_Hour (x : Hour) : (Hour.mk (Book.mk x.book.Each x.book.Fee x.book.Rate x.book.Unit x.book.Shares x.book.Hours) x.calls x.channels) = x := rfl
@[simp] theorem decl_Hour (ex : Bool) (q : Nat) (l : List Hour) (h : q = l.length) : (dec (PV.lst ex q 8 (encL l)) : Option (List Hour)) = some l := by subst h; exact dec_lst ex l
theorem get_Hour (l : List Hour) (k : Nat) (h : k < l.length) : List.drop (k * 8) (encL l) = [enc l[k].book.Each, enc l[k].book.Fee, enc l[k].book.Rate, enc l[k].book.Unit, enc l[k].book.Shares, enc l[k].book.Hours, enc l[k].calls, enc l[k].channels] ++ encL (l.drop (k + 1)) := encL_get l k h
theorem take_Hour (l : List Hour) (k : Nat) : List.take (k * 8) (encL l) = encL (l.take k) := encL_take l k
theorem drop_Hour (l : List Hour) (k : Nat) : List.drop (k * 8) (encL l) = encL (l.drop k) := encL_drop l k
theorem snoc_Hour (l : List Hour) (x : Hour) : encL l ++ [enc x.book.Each, enc x.book.Fee, enc x.book.Rate, enc x.book.Unit, enc x.book.Shares, enc x.book.Hours, enc x.calls, enc x.channels] = encL (l ++ [x]) := encL_snoc l x
@[simp] theorem decf_Hour (M : VM) (t : Nat) (out : List Hour) (h : M[t]? = some (.vec (encL out))) : (dec (fzSl M t (out.length * 8) 0 out.length (openCap + 8) 8) : Option (List Hour)) = some out := dec_fzSl M t out h (by decide)
@[simp] theorem lef_Hour (M : VM) (t : Nat) (out : List Hour) (h : M[t]? = some (.vec (encL out))) : (fzSl M t (out.length * 8) 0 out.length (openCap + 8) 8).le (.lst false out.length 8 (encL out)) = True := le_fzSl M t out h (by decide)
theorem app_Hour (M : VM) (t bytes : Nat) (out : List Hour) (x : Hour) (h : M[t]? = some (.vec (encL out))) (hf : fits (out.length + 1) bytes = true) :
    appendV M 8 bytes (.sl t (out.length * 8) 0 out.length (openCap + 8) 8) (.lst true 1 8 [PV.int .i64 x.book.Each, PV.int .i64 x.book.Fee, PV.int .i64 x.book.Rate, PV.int .i64 x.book.Unit, PV.lst false (x.book.Shares).length 1 (encL x.book.Shares), PV.lst false (x.book.Hours).length 1 (encL x.book.Hours), PV.lst false (x.calls).length 4 (encL x.calls), PV.int .i64 x.channels]) = some (.sl t ((out.length + 1) * 8) 0 (out.length + 1) (openCap + 8) 8, M.set t (.vec (encL (out ++ [x])))) := append_one M t bytes out x h (by decide) hf rfl

structure JCall where
  call : Call
  served : Served
  deriving DecidableEq
instance elJCall : El JCall where
  sz := 7
  cells x := [enc x.call.At, enc x.call.Wait, enc x.call.Hear, enc x.call.From, enc x.served.Joined, enc x.served.Left, enc x.served.Channel]
  un cs := match cs with | [v0, v1, v2, v3, v4, v5, v6] => (dec v0).bind fun a0 => (dec v1).bind fun a1 => (dec v2).bind fun a2 => (dec v3).bind fun a3 => (dec v4).bind fun a4 => (dec v5).bind fun a5 => (dec v6).bind fun a6 => some ⟨⟨a0, a1, a2, a3⟩, ⟨a4, a5, a6⟩⟩ | _ => none
  len _ := rfl
  un_le := by
    intro cs a h
    split at h
    · simp only [Option.bind_eq_some_iff, Option.some.injEq] at h
      obtain ⟨x0, h0, x1, h1, x2, h2, x3, h3, x4, h4, x5, h5, x6, h6, rfl⟩ := h
      exact ⟨Enc.dec_le h0, Enc.dec_le h1, Enc.dec_le h2, Enc.dec_le h3, Enc.dec_le h4, Enc.dec_le h5, Enc.dec_le h6, trivial⟩
    · cases h
  un_cells x := by simp only [Enc.dec_enc, Option.bind_some]
  isF x := by simp only [PV.isFL, Bool.and_eq_true, and_true]; exact ⟨rfl, rfl, rfl, rfl, rfl, rfl, rfl⟩
instance encJCall : Enc JCall := encOfEl JCall
@[simp] theorem sz_JCall : El.sz JCall = 7 := rfl
@[simp] theorem cells_JCall (x : JCall) : El.cells x = [enc x.call.At, enc x.call.Wait, enc x.call.Hear, enc x.call.From, enc x.served.Joined, enc x.served.Left, enc x.served.Channel] := rfl
@[simp] theorem enc_JCall (x : JCall) : enc x = PV.agg [enc x.call.At, enc x.call.Wait, enc x.call.Hear, enc x.call.From, enc x.served.Joined, enc x.served.Left, enc x.served.Channel] := rfl
@[simp] theorem dec_JCall (v0 v1 v2 v3 v4 v5 v6 : PV) : (dec (PV.agg [v0, v1, v2, v3, v4, v5, v6]) : Option JCall) = (dec v0).bind fun a0 => (dec v1).bind fun a1 => (dec v2).bind fun a2 => (dec v3).bind fun a3 => (dec v4).bind fun a4 => (dec v5).bind fun a5 => (dec v6).bind fun a6 => some ⟨⟨a0, a1, a2, a3⟩, ⟨a4, a5, a6⟩⟩ := rfl
@[simp] theorem eta_JCall (x : JCall) : (JCall.mk (Call.mk x.call.At x.call.Wait x.call.Hear x.call.From) (Served.mk x.served.Joined x.served.Left x.served.Channel)) = x := rfl
@[simp] theorem decl_JCall (ex : Bool) (q : Nat) (l : List JCall) (h : q = l.length) : (dec (PV.lst ex q 7 (encL l)) : Option (List JCall)) = some l := by subst h; exact dec_lst ex l
theorem get_JCall (l : List JCall) (k : Nat) (h : k < l.length) : List.drop (k * 7) (encL l) = [enc l[k].call.At, enc l[k].call.Wait, enc l[k].call.Hear, enc l[k].call.From, enc l[k].served.Joined, enc l[k].served.Left, enc l[k].served.Channel] ++ encL (l.drop (k + 1)) := encL_get l k h
theorem take_JCall (l : List JCall) (k : Nat) : List.take (k * 7) (encL l) = encL (l.take k) := encL_take l k
theorem drop_JCall (l : List JCall) (k : Nat) : List.drop (k * 7) (encL l) = encL (l.drop k) := encL_drop l k
theorem snoc_JCall (l : List JCall) (x : JCall) : encL l ++ [enc x.call.At, enc x.call.Wait, enc x.call.Hear, enc x.call.From, enc x.served.Joined, enc x.served.Left, enc x.served.Channel] = encL (l ++ [x]) := encL_snoc l x
@[simp] theorem decf_JCall (M : VM) (t : Nat) (out : List JCall) (h : M[t]? = some (.vec (encL out))) : (dec (fzSl M t (out.length * 7) 0 out.length (openCap + 7) 7) : Option (List JCall)) = some out := dec_fzSl M t out h (by decide)
@[simp] theorem lef_JCall (M : VM) (t : Nat) (out : List JCall) (h : M[t]? = some (.vec (encL out))) : (fzSl M t (out.length * 7) 0 out.length (openCap + 7) 7).le (.lst false out.length 7 (encL out)) = True := le_fzSl M t out h (by decide)
theorem app_JCall (M : VM) (t bytes : Nat) (out : List JCall) (x : JCall) (h : M[t]? = some (.vec (encL out))) (hf : fits (out.length + 1) bytes = true) :
    appendV M 7 bytes (.sl t (out.length * 7) 0 out.length (openCap + 7) 7) (.lst true 1 7 [PV.int .i64 x.call.At, PV.int .i64 x.call.Wait, PV.int .i64 x.call.Hear, PV.int .i64 x.call.From, PV.int .i64 x.served.Joined, PV.int .i64 x.served.Left, PV.int .i64 x.served.Channel]) = some (.sl t ((out.length + 1) * 7) 0 (out.length + 1) (openCap + 7) 7, M.set t (.vec (encL (out ++ [x])))) := append_one M t bytes out x h (by decide) hf rfl
theorem beq_JCall (x y : JCall) : (x.call.At == y.call.At && (x.call.Wait == y.call.Wait && (x.call.Hear == y.call.Hear && (x.call.From == y.call.From && (x.served.Joined == y.served.Joined && (x.served.Left == y.served.Left && (x.served.Channel == y.served.Channel))))))) = decide (x = y) := by
  rw [Bool.eq_iff_iff]
  constructor
  · intro h
    simp only [Bool.and_eq_true, beq_iff_eq] at h
    obtain ⟨h0, h1, h2, h3, h4, h5, h6⟩ := h
    rw [decide_eq_true_eq, ← eta_JCall x, ← eta_JCall y, h0, h1, h2, h3, h4, h5, h6]
  · intro h
    rw [decide_eq_true_eq] at h; subst h; simp

end Go.RS.CC

/- Walks: what the reference and the statements share. -/
namespace Go.RS.CC
open Go Go.RS
open Go.RS.Enc (enc dec)
variable {E : VEnv}
def wi (n a b : Int) : Bool := decide (a ≤ n) && decide (n ≤ b)
theorem wi_iff (n a b : Int) : wi n a b = true ↔ a ≤ n ∧ n ≤ b := by simp [wi]
theorem w_within (hE : E.env.fn = G) : Ok E 54 (s3 fun n a b => some (wi n a b)) := by
  refine ok3 fun n a b r hr => ?_
  cases hr
  refine VP.run (A := F54) (goodV_nil) [] (by rw [hE]; rfl) (by simp [F54]) ?_; unfold F54; simp (implicitDefEqProofs := false) [enc_list]
  by_cases h : a ≤ n <;> simp (implicitDefEqProofs := false) [enc_list, h, wi]
theorem w_Lies (hE : E.env.fn = G) : Ok E 40 (s3 fun n a b => some (wi n a b)) := by
  refine ok3 fun n a b r hr => ?_
  cases hr
  refine VP.run (A := F40) (goodV_nil) [] (by rw [hE]; rfl) (by simp [F40]) ?_; unfold F40; simp (implicitDefEqProofs := false) [enc_list]
  by_cases h : a ≤ n <;> simp (implicitDefEqProofs := false) [enc_list, h, wi]
def restF (n b : Int) : Option Int := if 0 < b ∧ b < 9223372036854775808 then some (n % b) else none
theorem w_Rest (hE : E.env.fn = G) : Ok E 41 (s2 restF) := by
  refine ok2 fun n b r hr => ?_
  unfold restF at hr
  split at hr
  · rename_i hb
    cases hr
    refine VP.run (A := F41) (goodV_nil) [] (by rw [hE]; rfl) (by simp [F41]) ?_; unfold F41; simp (implicitDefEqProofs := false) [enc_list]
    have h0 : b ≠ 0 := by omega
    simp (implicitDefEqProofs := false) [enc_list, h0]
    have h1 := Int.emod_nonneg n h0
    have h2 := Int.emod_lt_of_pos n hb.1
    have h3 : n.tmod b = if 0 ≤ n ∨ b ∣ n then n % b else n % b - b := by
      rw [Int.tmod_eq_emod]
      split
      · simp
      · omega
    by_cases h4 : 0 ≤ n ∨ b ∣ n
    · rw [if_pos h4] at h3
      have h5 : ¬ n % b < 0 := by omega
      simp (implicitDefEqProofs := false) [enc_list, h3, h5]
    · rw [if_neg h4] at h3
      have h5 : n % b - b < 0 := by omega
      have h6 : IntKind.i64.wrap (n % b) = n % b := wrap64 (by omega) (by omega)
      simp (implicitDefEqProofs := false) [enc_list, h3, h5, h6]
  · cases hr
def floorF (n b : Int) : Option Int := if 0 < b ∧ b < 4611686018427387904 ∧ -4611686018427387904 ≤ n ∧ n ≤ 4611686018427387904 then some (n / b) else none
theorem tdiv_floor (n b : Int) (hb : 0 < b) : (n - n % b).tdiv b = n / b := by
  have : n - n % b = b * (n / b) := by have := Int.mul_ediv_add_emod n b; omega
  rw [this]
  exact Int.mul_tdiv_cancel_left _ (by omega)
theorem div_bounds (n b : Int) (hb : 0 < b) (h1 : -4611686018427387904 ≤ n) (h2 : n ≤ 4611686018427387904) : -4611686018427387904 ≤ n / b ∧ n / b ≤ 4611686018427387904 := by
  constructor
  · exact (Int.le_ediv_iff_mul_le hb).2 (by omega)
  · have : n / b < 4611686018427387904 + 1 := (Int.ediv_lt_iff_lt_mul hb).2 (by omega)
    omega
theorem w_Floor (hE : E.env.fn = G) : Ok E 77 (s2 floorF) := by
  refine ok2 fun n b r hr => ?_
  unfold floorF at hr
  split at hr
  · rename_i hb
    cases hr
    refine VP.run (A := F77) ((goodV_cons (w_Rest hE) goodV_nil)) [] (by rw [hE]; rfl) (by simp [F77]) ?_; unfold F77; simp (implicitDefEqProofs := false) [enc_list]
    have h0 : b ≠ 0 := by omega
    have h1 := Int.emod_nonneg n h0
    have h2 := Int.emod_lt_of_pos n hb.1
    have h3 : restF n b = some (n % b) := if_pos ⟨hb.1, by omega⟩
    have h4 : IntKind.i64.wrap (n - n % b) = n - n % b := wrap64 (by omega) (by omega)
    have h5 := div_bounds n b hb.1 hb.2.2.1 hb.2.2.2
    have h6 : IntKind.i64.wrap (n / b) = n / b := wrap64 (by omega) (by omega)
    simp (implicitDefEqProofs := false) [enc_list, h0, h3, h4, tdiv_floor n b hb.1, h6]
  · cases hr
def ceilF (n b : Int) : Option Int := if 0 < b ∧ b < 4611686018427387904 ∧ -4611686018427387904 ≤ n ∧ n ≤ 4611686018427387904 then some (-((-n) / b)) else none
theorem w_Ceil (hE : E.env.fn = G) : Ok E 66 (s2 ceilF) := by
  refine ok2 fun n b r hr => ?_
  unfold ceilF at hr
  split at hr
  · rename_i hb
    cases hr
    have h3 : floorF (-n) b = some (-n / b) := if_pos ⟨hb.1, hb.2.1, by omega, by omega⟩
    have h4 : IntKind.i64.wrap (-n) = -n := wrap64 (by omega) (by omega)
    have h5 := div_bounds (-n) b hb.1 (by omega) (by omega)
    have h6 : IntKind.i64.wrap (-(-n / b)) = -(-n / b) := wrap64 (by omega) (by omega)
    refine VP.run (A := F66) ((goodV_cons (w_Floor hE) goodV_nil)) [] (by rw [hE]; rfl) (by simp [F66]) ?_; unfold F66; simp (implicitDefEqProofs := false) [enc_list]
    simp (implicitDefEqProofs := false) [enc_list, h3, h4, h6]
  · cases hr
theorem w_To (hE : E.env.fn = G) : Ok E 43 (s2 fun a b => some (Span.mk a b)) := by
  refine ok2 fun a b r hr => ?_
  cases hr
  refine VP.run (A := F43) (goodV_nil) [] (by rw [hE]; rfl) (by simp [F43]) ?_; unfold F43; simp (implicitDefEqProofs := false) [enc_list]
  simp (implicitDefEqProofs := false) [enc_list, spliceV]
end Go.RS.CC

/- Walks: lists. -/
namespace Go.RS.CC
open Go Go.RS
open Go.RS.Enc (enc dec)
variable {E : VEnv}
def firstF : List Int → List Int → Nat
  | x :: a, y :: b => if x = y then firstF a b + 1 else 0
  | _, _ => 0
theorem firstF_eq : ∀ {a b : List Int}, a.length = b.length → (firstF a b = a.length ↔ a = b)
  | [], [], _ => by simp [firstF]
  | x :: a, y :: b, h => by
    have ih := firstF_eq (a := a) (b := b) (by simpa using h)
    unfold firstF
    by_cases hx : x = y
    · simp [hx, ih]
    · simp [hx]
theorem w_First (hE : E.env.fn = G) : Ok E 59 (s2 fun (a b : List Int) => some (firstF a b : Int)) := by
  refine ok2 fun a b r hr => ?_
  cases hr
  refine VP.bound fun hb => ?_
  simp [enc_list] at hb
  refine VP.run (A := F59) (goodV_nil) [] (by rw [hE]; rfl) (by simp [F59]) ?_; unfold F59; simp (implicitDefEqProofs := false) [enc_list]
  refine VW.loop_to 0 [(5, .int .i64 (firstF a b))] [] (True) ?_ (fun hp f m hc => ?_)
  · obtain ⟨Inv, hI⟩ : ∃ Inv : Nat → List (Nat × PV) → VM → Prop, ∀ k f m, Inv k f m ↔ (f = [(0, enc a), (1, enc b), (5, .int .i64 k)] ∧ m = [] ∧ k + firstF (a.drop k) (b.drop k) = firstF a b) := ⟨_, fun _ _ _ => Iff.rfl⟩
    refine VW.loop_cut Inv a.length ?_ ?_ ?_
    · exact ⟨_, _, (hI _ _ _).2 ⟨rfl, rfl, by simp⟩, ⟨0, [], by simp [enc_list], by simp, by simp, by simp (implicitDefEqProofs := false) [enc_list], by simp (implicitDefEqProofs := false) [enc_list]⟩⟩
    · intro k f m hk hi
      obtain ⟨rfl, rfl, hs⟩ := (hI _ _ _).1 hi
      refine VW.run goodV_nil [] ?_
      have w1 : IntKind.i64.wrap ((k : Int) + 1) = k + 1 := wrap64 (by omega) (by omega)
      by_cases hkb : k < b.length
      · rw [List.drop_eq_getElem_cons hk, List.drop_eq_getElem_cons hkb] at hs
        by_cases he : a[k] = b[k]
        · simp (implicitDefEqProofs := false) [enc_list, hk, hkb, get_Int a k hk, get_Int b k hkb, he, w1]
          simp [firstF, he] at hs
          exact ⟨_, _, (hI _ _ _).2 ⟨rfl, rfl, by omega⟩, ⟨0, [], by simp [enc_list], by simp, by simp, by simp (implicitDefEqProofs := false) [enc_list], by simp (implicitDefEqProofs := false) [enc_list]⟩⟩
        · simp [firstF, he] at hs
          simp (implicitDefEqProofs := false) [enc_list, hk, hkb, get_Int a k hk, get_Int b k hkb, he, w1]
          exact ⟨0, [], by simp [enc_list,  hs], by simp, by simp, by simp (implicitDefEqProofs := false) [enc_list,  hs], by simp (implicitDefEqProofs := false) [enc_list,  hs]⟩
      · rw [List.drop_eq_nil_of_le (show b.length ≤ k by omega)] at hs
        have : firstF (a.drop k) [] = 0 := by cases a.drop k <;> rfl
        rw [this] at hs
        simp (implicitDefEqProofs := false) [enc_list, hk, hkb]
        exact ⟨0, [], by simp [enc_list,  ← hs], by simp, by simp, by simp (implicitDefEqProofs := false) [enc_list,  ← hs], by simp (implicitDefEqProofs := false) [enc_list,  ← hs]⟩
    · intro f m hi
      obtain ⟨rfl, rfl, hs⟩ := (hI _ _ _).1 hi
      refine VW.run goodV_nil [] ?_
      simp [firstF] at hs
      simp (implicitDefEqProofs := false) [enc_list]
      exact ⟨0, [], by simp [enc_list,  ← hs], by simp, by simp, by simp (implicitDefEqProofs := false) [enc_list,  ← hs], by simp (implicitDefEqProofs := false) [enc_list,  ← hs]⟩
  · simp (implicitDefEqProofs := false); refine .ofCut hc (VW.run goodV_nil [] ?_); simp (implicitDefEqProofs := false) [enc_list]
theorem w_Alike (hE : E.env.fn = G) : Ok E 23 (s2 fun (a b : List Int) => some (decide (a = b))) := by
  refine ok2 fun a b r hr => ?_
  cases hr
  refine VP.run (A := F23) ((goodV_cons (w_First hE) goodV_nil)) [] (by rw [hE]; rfl) (by simp [F23]) ?_; unfold F23; simp (implicitDefEqProofs := false) [enc_list]
  by_cases h : a.length = b.length
  · have := firstF_eq h
    simp (implicitDefEqProofs := false) [enc_list, h]
    rw [← h, this]
  · have : a ≠ b := fun e => h (by rw [e])
    simp (implicitDefEqProofs := false) [enc_list, h, this]
theorem w_SameServed (hE : E.env.fn = G) : Ok E 18 (s2 fun (a b : List Served) => some (decide (a = b))) := by
  refine ok2 fun a b r hr => ?_
  cases hr
  refine VP.bound fun hb => ?_
  simp [enc_list] at hb
  refine VP.run (A := F18) (goodV_nil) [] (by rw [hE]; rfl) (by simp [F18]) ?_; unfold F18; simp (implicitDefEqProofs := false) [enc_list]
  refine VW.loop_to 0 [(5, .bool (decide (a = b)))] [] (True) ?_ (fun hp f m hc => ?_)
  · obtain ⟨Inv, hI⟩ : ∃ Inv : Nat → List (Nat × PV) → VM → Prop, ∀ k f m, Inv k f m ↔ (∃ s, f = [(0, enc a), (1, enc b), (5, .bool s), (6, .int .i64 k)] ∧ m = [] ∧ (s = true ↔ a.length = b.length ∧ a.take k = b.take k)) := ⟨_, fun _ _ _ => Iff.rfl⟩
    refine VW.loop_cut Inv a.length ?_ ?_ ?_
    · exact ⟨_, _, (hI _ _ _).2 ⟨decide (a.length = b.length), rfl, rfl, by simp⟩, ⟨0, [], by simp [enc_list], by simp, by simp, by simp (implicitDefEqProofs := false) [enc_list], by simp (implicitDefEqProofs := false) [enc_list]⟩⟩
    · intro k f m hk hi
      obtain ⟨s, rfl, rfl, hs⟩ := (hI _ _ _).1 hi
      refine VW.run goodV_nil [] ?_
      cases s
      · simp (implicitDefEqProofs := false) [enc_list]
        have : a ≠ b := by rintro rfl; simp at hs
        exact ⟨0, [], by simp [enc_list,  this], by simp, by simp, by simp (implicitDefEqProofs := false) [enc_list,  this], by simp (implicitDefEqProofs := false) [enc_list,  this]⟩
      · have ⟨h7, h8⟩ := hs.1 rfl
        have hkb : k < b.length := by omega
        have w1 : IntKind.i64.wrap ((k : Int) + 1) = k + 1 := wrap64 (by omega) (by omega)
        simp (implicitDefEqProofs := false) [enc_list, hk, hkb, get_Served a k hk, get_Served b k hkb, w1]
        refine ⟨_, _, (hI _ _ _).2 ⟨decide (a[k] = b[k]), rfl, rfl, ?_⟩, ⟨0, [], by simp [enc_list,  beq_Served], by simp, by simp, by simp (implicitDefEqProofs := false) [enc_list,  beq_Served], by simp (implicitDefEqProofs := false) [enc_list,  beq_Served]⟩⟩
        rw [List.take_succ_eq_append_getElem hk, List.take_succ_eq_append_getElem hkb, h8, List.append_cancel_left_eq]
        simp [h7]
    · intro f m hi
      obtain ⟨s, rfl, rfl, hs⟩ := (hI _ _ _).1 hi
      refine VW.run goodV_nil [] ?_
      have : s = decide (a = b) := by
        rw [Bool.eq_iff_iff, hs]
        rw [decide_eq_true_eq]
        constructor
        · rintro ⟨h7, h8⟩
          rw [List.take_length, h7, List.take_length] at h8; exact h8
        · rintro rfl; simp
      subst this
      by_cases he : a = b <;> simp (implicitDefEqProofs := false) [enc_list, he]
      · exact ⟨0, [], by simp [enc_list], by simp, by simp, by simp (implicitDefEqProofs := false) [enc_list], by simp (implicitDefEqProofs := false) [enc_list]⟩
      · exact ⟨0, [], by simp [enc_list], by simp, by simp, by simp (implicitDefEqProofs := false) [enc_list], by simp (implicitDefEqProofs := false) [enc_list]⟩
  · simp (implicitDefEqProofs := false); refine .ofCut hc (VW.run goodV_nil [] ?_); simp (implicitDefEqProofs := false) [enc_list]
end Go.RS.CC

/- The chapter's answers, as plain functions (1): the reference. -/
namespace Go.RS.CC
open Go Go.RS
open Go.RS.Enc (enc dec)
def lenm (n : Nat) : Int := IntKind.i64.wrap ((n : Int) - 1)
def callOkR (b : Book) (last : Int) (x : Call) : Bool := wi x.At last 3599 && wi x.Wait 0 3600 && wi x.Hear 1 5 && wi x.From 0 (lenm b.Shares.length)
def callsLR (b : Book) : List Call → Int → Bool
  | [], _ => true
  | x :: l, last => callOkR b last x && callsLR b l x.At
def callsR (b : Book) (l : List Call) : Bool := decide (l.length ≤ 12) && callsLR b l 0
def headR (b : Book) : Bool := wi b.Each 1 60 && wi b.Fee 0 100 && wi b.Rate 0 100 && wi b.Unit 1 600 && wi b.Shares.length 1 4 && wi b.Hours.length 1 5
def okR (b : Book) : Bool := headR b && b.Shares.all (fun n => wi n 0 100) && b.Hours.all (callsR b)
def checkR (b : Book) : Int := if okR b then 0 else 90
def isFree (served : List Served) (c at_ : Int) : Bool := served.all fun s => !decide (s.Channel = c) || decide (s.Left ≤ at_)
def freeL (served : List Served) (at_ : Int) : Nat → Int → Int
  | 0, _ => -1
  | n + 1, c => if isFree served c at_ then c else freeL served at_ n (c + 1)
def freeR (served : List Served) (ch at_ : Int) : Int := freeL served at_ ch.toNat 0
def endR (each hear at_ : Int) : Int := (-((-at_) / each) + hear) * each
def callRng (x : Call) : Prop := 0 ≤ x.At ∧ x.At ≤ 3599 ∧ 0 ≤ x.Wait ∧ x.Wait ≤ 3600 ∧ 1 ≤ x.Hear ∧ x.Hear ≤ 5
instance (x : Call) : Decidable (callRng x) := by unfold callRng; infer_instance
def seekR (out : List Served) (ch : Int) : Nat → Int → Option Int
  | 0, _ => none
  | n + 1, at_ => if 0 ≤ freeR out ch at_ then some at_ else seekR out ch n (at_ + 1)
def pickR (each : Int) (out : List Served) (ch : Int) (x : Call) : Option Int → Served
  | some a => ⟨a, endR each x.Hear a, freeR out ch a⟩
  | none => ⟨-1, x.At + x.Wait, -1⟩
def oneR (each : Int) (out : List Served) (ch : Int) (x : Call) : Served := pickR each out ch x (seekR out ch (x.Wait + 1).toNat x.At)
def serveR (each ch : Int) : List Served → List Call → List Served
  | out, [] => out
  | out, x :: l => serveR each ch (out ++ [oneR each out ch x]) l
/-! ### A book that is one -/
theorem callsLR_rng (b : Book) : ∀ {l : List Call} {last : Int}, 0 ≤ last → callsLR b l last = true → ∀ x ∈ l, callRng x ∧ 0 ≤ x.From ∧ x.From ≤ lenm b.Shares.length
  | [], _, _, _, x, hx => by cases hx
  | y :: l, last, h0, h, x, hx => by
    simp only [callsLR, Bool.and_eq_true, callOkR, wi_iff] at h
    obtain ⟨⟨⟨⟨h1, h2⟩, h3⟩, h4⟩, h5⟩ := h
    rcases List.mem_cons.1 hx with rfl | hx
    · exact ⟨⟨by omega, by omega, by omega, by omega, by omega, by omega⟩, h4.1, h4.2⟩
    · exact callsLR_rng b (by omega) h5 x hx
structure BookOk (b : Book) : Prop where
  e1 : 1 ≤ b.Each
  e2 : b.Each ≤ 60
  f1 : 0 ≤ b.Fee
  f2 : b.Fee ≤ 100
  r1 : 0 ≤ b.Rate
  r2 : b.Rate ≤ 100
  u1 : 1 ≤ b.Unit
  u2 : b.Unit ≤ 600
  s1 : 1 ≤ b.Shares.length
  s2 : b.Shares.length ≤ 4
  h1 : 1 ≤ b.Hours.length
  h2 : b.Hours.length ≤ 5
  sh : ∀ n ∈ b.Shares, 0 ≤ n ∧ n ≤ 100
  hl : ∀ l ∈ b.Hours, l.length ≤ 12
  hc : ∀ l ∈ b.Hours, ∀ x ∈ l, callRng x ∧ 0 ≤ x.From ∧ x.From < b.Shares.length
theorem okR_ok {b : Book} (h : okR b = true) : BookOk b := by
  simp only [okR, headR, Bool.and_eq_true, wi_iff, List.all_eq_true] at h
  obtain ⟨⟨⟨⟨⟨⟨⟨h1, h2⟩, h3⟩, h4⟩, h5⟩, h6⟩, h7⟩, h8⟩ := h
  have hm : lenm b.Shares.length = (b.Shares.length : Int) - 1 := wrap64 (by omega) (by omega)
  refine ⟨h1.1, h1.2, h2.1, h2.2, h3.1, h3.2, h4.1, h4.2, by omega, by omega, by omega, by omega, h7, fun l hl => ?_, fun l hl x hx => ?_⟩
  · have := h8 l hl
    simp only [callsR, Bool.and_eq_true, decide_eq_true_eq] at this
    exact this.1
  · have := h8 l hl
    simp only [callsR, Bool.and_eq_true] at this
    have g := callsLR_rng b (Int.le_refl 0) this.2 x hx
    exact ⟨g.1, g.2.1, by have := g.2.2; omega⟩
def askedR (b : Book) (hour ch : Int) : Int := if okR b then (if wi hour 0 (lenm b.Hours.length) && wi ch 1 20 then 0 else 91) else 90
def hourOf (b : Book) (hour : Int) : List Call := b.Hours.getD hour.toNat []
def ServeR (b : Book) (hour ch : Int) : List Served × Int := if askedR b hour ch = 0 then (serveR b.Each ch [] (hourOf b hour), 0) else ([], askedR b hour ch)
def lostL : Nat → List Served → List Int
  | _, [] => []
  | i, s :: l => if s.Joined < 0 then (i : Int) :: lostL (i + 1) l else lostL (i + 1) l
def LostR (b : Book) (hour ch : Int) : List Int × Int := if (ServeR b hour ch).2 = 0 then (lostL 0 (ServeR b hour ch).1, 0) else ([], (ServeR b hour ch).2)
def joinedR (l : List Served) (a : Int) : Nat := l.countP fun s => decide (0 ≤ s.Joined) && decide (s.Joined ≤ a) && decide (a < s.Left)
def enoughR (b : Book) (c : Int) : Bool := b.Hours.all fun l => decide ((lostL 0 (serveR b.Each c [] l)).length = 0)
def fewL (b : Book) : Nat → Int → Int
  | 0, c => c
  | n + 1, c => if enoughR b c || decide (c = 20) then c else fewL b n (c + 1)
def FewestR (b : Book) : Int × Int := if okR b then (fewL b 20 1, 0) else (0, 90)
def busyL (l : List Served) : List Served → Int → Int → Int × Int
  | [], m, a => (m, a)
  | x :: r, m, a => if x.Joined < 0 then busyL l r m a else if decide (m < joinedR l x.Joined) || (decide ((joinedR l x.Joined : Int) = m) && decide (x.Joined < a)) then busyL l r (joinedR l x.Joined) x.Joined else busyL l r m a
def BusyR (b : Book) (h c : Int) : T3 Int Int Int :=
  if (ServeR b h c).2 = 0 then (if (busyL (ServeR b h c).1 (ServeR b h c).1 0 0).1 = 0 then ⟨0, 0, 4⟩ else ⟨(busyL (ServeR b h c).1 (ServeR b h c).1 0 0).1, (busyL (ServeR b h c).1 (ServeR b h c).1 0 0).2, 0⟩) else ⟨0, 0, (ServeR b h c).2⟩
/-! ### Bounds -/
theorem seekR_rng {out : List Served} {ch : Int} : ∀ {n : Nat} {a b : Int}, seekR out ch n a = some b → a ≤ b ∧ b < a + n
  | 0, _, _, h => by cases h
  | n + 1, a, b, h => by
    unfold seekR at h
    split at h
    · cases h; omega
    · have := seekR_rng h; omega
structure SvOk (s : Served) : Prop where
  j1 : -1 ≤ s.Joined
  j2 : s.Joined ≤ 7199
  l1 : 0 ≤ s.Left
  l2 : s.Left ≤ 432300
  d : s.Joined < s.Left
theorem ceil_ge (a e : Int) (he : 1 ≤ e) : a ≤ -(-a / e) * e := by
  have h1 := Int.mul_ediv_add_emod (-a) e
  have h2 := Int.emod_nonneg (-a) (show e ≠ 0 by omega)
  have h3 : -(-a / e) * e = -(e * (-a / e)) := by rw [Int.neg_mul, Int.mul_comm]
  omega
theorem ceil_b {a e : Int} (h1 : 1 ≤ e) (h2 : 0 ≤ a) (h3 : a ≤ 7200) : 0 ≤ -(-a / e) ∧ -(-a / e) ≤ 7200 := by
  have g1 : -a / e ≤ 0 := Int.ediv_nonpos_of_nonpos_of_neg (by omega) (by omega)
  have g2 : -7200 ≤ -a / e := (Int.le_ediv_iff_mul_le (by omega)).2 (by omega)
  omega
theorem oneR_ok {each ch : Int} {out : List Served} {x : Call} (h1 : 1 ≤ each) (h2 : each ≤ 60) (hx : callRng x) : SvOk (oneR each out ch x) := by
  obtain ⟨x1, x2, x3, x4, x5, x6⟩ := hx
  unfold oneR
  cases hs : seekR out ch (x.Wait + 1).toNat x.At with
  | none => exact ⟨by simp [pickR], by simp [pickR], by simp [pickR]; omega, by simp [pickR]; omega, by simp [pickR]; omega⟩
  | some a =>
    obtain ⟨g1, g2⟩ := seekR_rng hs
    have g3 : 0 ≤ a ∧ a ≤ 7199 := by omega
    obtain ⟨g4, g5⟩ := ceil_b (e := each) h1 g3.1 (by omega)
    have g6 : (-(-a / each) + x.Hear) * each ≤ 7205 * 60 := Int.mul_le_mul (by omega) (by omega) (by omega) (by omega)
    have g7 := ceil_ge a each h1
    have g8 : (-(-a / each) + x.Hear) * each = -(-a / each) * each + x.Hear * each := Int.add_mul _ _ _
    have g9 : 1 * 1 ≤ x.Hear * each := Int.mul_le_mul (by omega) (by omega) (by omega) (by omega)
    exact ⟨by simp [pickR]; omega, by simp [pickR]; omega, by simp only [pickR, endR]; omega, by simp only [pickR, endR]; omega, by simp only [pickR, endR]; omega⟩
theorem serveR_mem {each ch : Int} : ∀ {l : List Call} {out : List Served} {s : Served}, s ∈ serveR each ch out l → s ∈ out ∨ ∃ x ∈ l, ∃ o, s = oneR each o ch x
  | [], out, s, h => .inl h
  | x :: l, out, s, h => by
    rw [serveR] at h
    rcases serveR_mem h with h | ⟨y, hy, o, h⟩
    · rcases List.mem_append.1 h with h | h
      · exact .inl h
      · simp at h; exact .inr ⟨x, by simp, out, h⟩
    · exact .inr ⟨y, by simp [hy], o, h⟩
theorem askedR_zero {b : Book} {h c : Int} (ha : askedR b h c = 0) : okR b = true ∧ 0 ≤ h ∧ h < b.Hours.length ∧ 1 ≤ c ∧ c ≤ 20 := by
  have ho : okR b = true := by
    by_cases ho : okR b = true
    · exact ho
    · simp [askedR, ho] at ha
  have bo := okR_ok ho
  have hw : wi h 0 (lenm b.Hours.length) = true ∧ wi c 1 20 = true := by
    by_cases hx : wi h 0 (lenm b.Hours.length) = true ∧ wi c 1 20 = true
    · exact hx
    · simp [askedR, ho] at ha; exact ha
  have h1 := bo.h1
  have h2 := bo.h2
  have hm : lenm b.Hours.length = (b.Hours.length : Int) - 1 := wrap64 (by omega) (by omega)
  rw [hm, wi_iff, wi_iff] at hw
  exact ⟨ho, by omega, by omega, by omega, by omega⟩
theorem hourOf_mem {b : Book} {h : Int} (h0 : 0 ≤ h) (h1 : h < b.Hours.length) : hourOf b h ∈ b.Hours ∧ ∃ hh : h.toNat < b.Hours.length, hourOf b h = b.Hours[h.toNat] := by
  have hh : h.toNat < b.Hours.length := by omega
  have : hourOf b h = b.Hours[h.toNat] := by simp [hourOf, hh]
  exact ⟨this ▸ List.getElem_mem hh, hh, this⟩
theorem ServeR_ok {b : Book} {h c : Int} : ∀ s ∈ (ServeR b h c).1, SvOk s := by
  intro s hs
  unfold ServeR at hs
  split at hs
  · rename_i ha
    obtain ⟨ho, h0, h1, _⟩ := askedR_zero ha
    have bo := okR_ok ho
    obtain ⟨hm, _⟩ := hourOf_mem h0 h1
    rcases serveR_mem hs with hs | ⟨x, hx, o, rfl⟩
    · cases hs
    · exact oneR_ok bo.e1 bo.e2 (bo.hc _ hm x hx).1
  · cases hs
def sooner (a b : Served) : Bool := decide (0 ≤ a.Joined) && (decide (b.Joined < 0) || decide (a.Joined < b.Joined))
def HeardR (b : Book) (h c k : Int) : Span × Int :=
  if (ServeR b h c).2 = 0 then
    (if wi k 0 (lenm (ServeR b h c).1.length) then
      (if ((ServeR b h c).1.getD k.toNat ⟨0, 0, 0⟩).Joined < 0 then (⟨0, 0⟩, 4)
       else (⟨((ServeR b h c).1.getD k.toNat ⟨0, 0, 0⟩).Left - ((hourOf b h).getD k.toNat ⟨0, 0, 0, 0⟩).Hear * b.Each, ((ServeR b h c).1.getD k.toNat ⟨0, 0, 0⟩).Left - b.Each⟩, 0))
     else (⟨0, 0⟩, 91))
  else (⟨0, 0⟩, (ServeR b h c).2)
def chgL : Nat → List Served → List Served → List Int × List Int
  | k, a :: s, b :: t => ((if sooner b a then [(k : Int)] else []) ++ (chgL (k + 1) s t).1, (if sooner a b then [(k : Int)] else []) ++ (chgL (k + 1) s t).2)
  | _, _, _ => ([], [])
def ChangeR (b : Book) (h c : Int) : T3 (List Int) (List Int) Int :=
  if (ServeR b h c).2 = 0 then (if (ServeR b h (c + 1)).2 = 0 then ⟨(chgL 0 (ServeR b h c).1 (ServeR b h (c + 1)).1).1, (chgL 0 (ServeR b h c).1 (ServeR b h (c + 1)).1).2, 0⟩ else ⟨[], [], (ServeR b h (c + 1)).2⟩) else ⟨[], [], (ServeR b h c).2⟩
def paysR (b : Book) (s : Served) : Int := b.Fee + b.Rate * (-(-(s.Left - s.Joined) / b.Unit))
def partR (b : Book) (x : Call) (s : Served) : Int := paysR b s * b.Shares.getD x.From.toNat 0 / 100
def payL (b : Book) : List Call → List Served → List Int → Int → List Int × Int
  | x :: l, s :: t, p, h => if s.Joined < 0 then payL b l t p h else payL b l t (p.set x.From.toNat (p.getD x.From.toNat 0 + partR b x s)) (h + (paysR b s - partR b x s))
  | _, _, p, h => (p, h)
def PayR (b : Book) (h c : Int) : T3 (List Int) Int Int :=
  if (ServeR b h c).2 = 0 then ⟨(payL b (hourOf b h) (ServeR b h c).1 (List.replicate b.Shares.length 0) 0).1, (payL b (hourOf b h) (ServeR b h c).1 (List.replicate b.Shares.length 0) 0).2, 0⟩ else ⟨[], 0, (ServeR b h c).2⟩
theorem paysR_rng {b : Book} (bo : BookOk b) {s : Served} (hs : SvOk s) : -(-(s.Left - s.Joined) / b.Unit) ≤ 432301 ∧ 0 ≤ -(-(s.Left - s.Joined) / b.Unit) ∧ 0 ≤ b.Rate * (-(-(s.Left - s.Joined) / b.Unit)) ∧ b.Rate * (-(-(s.Left - s.Joined) / b.Unit)) ≤ 43230100 ∧ 0 ≤ paysR b s ∧ paysR b s ≤ 43230200 := by
  obtain ⟨j1, j2, l1, l2, d⟩ := hs
  have u1 := bo.u1
  have r1 := bo.r1
  have r2 := bo.r2
  have f1 := bo.f1
  have f2 := bo.f2
  have g1 : -(s.Left - s.Joined) / b.Unit ≤ 0 := Int.ediv_nonpos_of_nonpos_of_neg (by omega) (by omega)
  have g2 : -432301 ≤ -(s.Left - s.Joined) / b.Unit := (Int.le_ediv_iff_mul_le (by omega)).2 (by omega)
  have g3 : 0 ≤ b.Rate * (-(-(s.Left - s.Joined) / b.Unit)) := Int.mul_nonneg r1 (by omega)
  have g4 : b.Rate * (-(-(s.Left - s.Joined) / b.Unit)) ≤ 100 * 432301 := Int.mul_le_mul r2 (by omega) (by omega) (by omega)
  unfold paysR
  omega
theorem partR_rng {b : Book} (bo : BookOk b) {s : Served} (hs : SvOk s) {x : Call} (hx : x.From.toNat < b.Shares.length) : 0 ≤ paysR b s * b.Shares.getD x.From.toNat 0 ∧ paysR b s * b.Shares.getD x.From.toNat 0 ≤ 4323020000 ∧ 0 ≤ partR b x s ∧ partR b x s ≤ paysR b s := by
  obtain ⟨_, _, _, _, p1, p2⟩ := paysR_rng bo hs
  have hg : b.Shares.getD x.From.toNat 0 = b.Shares[x.From.toNat] := by simp [hx]
  obtain ⟨q1, q2⟩ := bo.sh _ (List.getElem_mem hx)
  rw [← hg] at q1 q2
  have g1 : 0 ≤ paysR b s * b.Shares.getD x.From.toNat 0 := Int.mul_nonneg p1 q1
  have g2 : paysR b s * b.Shares.getD x.From.toNat 0 ≤ 43230200 * 100 := Int.mul_le_mul p2 q2 q1 (by omega)
  have g3 : paysR b s * b.Shares.getD x.From.toNat 0 ≤ paysR b s * 100 := Int.mul_le_mul_of_nonneg_left q2 p1
  unfold partR
  omega
def cntL : List Served → Int → Int → Int × Int
  | [], n, t => (n, t)
  | x :: l, n, t => if 0 ≤ x.Joined then cntL l (n + 1) (t + (x.Left - x.Joined)) else cntL l n t
def testR (b : Book) (l : List Call) (many secs c : Int) : Bool := decide ((cntL (serveR b.Each c [] l) 0 0).1 = many) && decide ((cntL (serveR b.Each c [] l) 0 0).2 = secs)
def whL (test : Int → Bool) : Nat → Int → List Int
  | 0, _ => []
  | n + 1, c => (if test c then [c] else []) ++ whL test n (c + 1)
def WhichR (b : Book) (h many secs : Int) : List Int × Int := if askedR b h 1 = 0 then (whL (testR b (hourOf b h) many secs) 20 1, 0) else ([], askedR b h 1)
end Go.RS.CC

/- Walks: the reference (1): books. -/
namespace Go.RS.CC
open Go Go.RS
open Go.RS.Enc (enc dec)
variable {E : VEnv}
abbrev bkc (b : Book) : VObj := .cells (El.cells b)
theorem w_calls (hE : E.env.fn = G) : Ok E 56 (s2 fun b l => some (callsR b l)) := by
  refine ok2 fun b l r hr => ?_
  cases hr
  refine VP.bound fun hb => ?_
  simp [enc_list] at hb
  have good := goodV_cons (w_Lies hE) goodV_nil
  refine VP.run (A := F56) (good) [] (by rw [hE]; rfl) (by simp [F56]) ?_; unfold F56; simp (implicitDefEqProofs := false) [enc_list]
  refine VW.loop_to 0 [(5, .bool (callsR b l))] [] (True) ?_ (fun hp f m hc => ?_)
  · obtain ⟨Inv, hI⟩ : ∃ Inv : Nat → List (Nat × PV) → VM → Prop, ∀ k f m, Inv k f m ↔ (∃ s last, f = [(1, enc l), (2, .ptr 0 6 0), (5, .bool s), (6, .int .i64 last), (7, .int .i64 k)] ∧ m = [bkc b] ∧ callsR b l = (s && callsLR b (l.drop k) last)) := ⟨_, fun _ _ _ => Iff.rfl⟩
    refine VW.loop_cut Inv l.length ?_ ?_ ?_
    · exact ⟨_, _, (hI _ _ _).2 ⟨decide (l.length ≤ 12), 0, rfl, rfl, rfl⟩, ⟨1, [], by simp [enc_list,  show ((l.length : Int) ≤ 12 ↔ l.length ≤ 12) by omega], by simp, by simp, by simp (implicitDefEqProofs := false) [enc_list,  show ((l.length : Int) ≤ 12 ↔ l.length ≤ 12) by omega], by simp (implicitDefEqProofs := false) [enc_list,  show ((l.length : Int) ≤ 12 ↔ l.length ≤ 12) by omega]⟩⟩
    · intro k f m hk hi
      obtain ⟨s, last, rfl, rfl, hs⟩ := (hI _ _ _).1 hi
      refine VW.run good [] ?_
      have w1 : IntKind.i64.wrap ((k : Int) + 1) = k + 1 := wrap64 (by omega) (by omega)
      cases s
      · simp (implicitDefEqProofs := false) [enc_list]
        exact ⟨0, [], by simp [enc_list,  hs], by simp, by simp, by simp (implicitDefEqProofs := false) [enc_list,  hs], by simp (implicitDefEqProofs := false) [enc_list,  hs]⟩
      · rw [List.drop_eq_getElem_cons hk, callsLR, Bool.true_and] at hs
        simp (implicitDefEqProofs := false) [enc_list, hk, get_Call l k hk, w1, spliceV]
        repeat' (first | (refine vstep_split (fun hb => ?_) (fun hb => ?_) <;> (try simp only [Bool.not_eq_eq_eq_not, Bool.not_true, Bool.not_false, decide_eq_true_eq, decide_eq_false_iff_not] at hb) <;> simp (implicitDefEqProofs := false) [hb, enc_list, w1]) | (refine vcond_split (fun hb => ?_) (fun hb => ?_) <;> (try simp only [Bool.not_eq_eq_eq_not, Bool.not_true, Bool.not_false, decide_eq_true_eq, decide_eq_false_iff_not] at hb) <;> simp (implicitDefEqProofs := false) [hb, enc_list, w1]))
        all_goals exact ⟨_, _, (hI _ _ _).2 ⟨callOkR b last l[k], l[k].At, rfl, rfl, hs⟩, ⟨1, [], by simp [enc_list,  callOkR, lenm, *], by simp, by simp, by simp (implicitDefEqProofs := false) [enc_list,  callOkR, lenm, *], by simp (implicitDefEqProofs := false) [enc_list,  callOkR, lenm, *]⟩⟩
    · intro f m hi
      obtain ⟨s, last, rfl, rfl, hs⟩ := (hI _ _ _).1 hi
      refine VW.run good [] ?_
      rw [List.drop_length, callsLR, Bool.and_true] at hs
      cases s <;> simp (implicitDefEqProofs := false) [enc_list] <;> exact ⟨0, [], by simp [enc_list,  hs], by simp, by simp, by simp (implicitDefEqProofs := false) [enc_list,  hs], by simp (implicitDefEqProofs := false) [enc_list,  hs]⟩
  · simp (implicitDefEqProofs := false); refine .ofCut hc (VW.run good [] ?_); simp (implicitDefEqProofs := false) [enc_list]
end Go.RS.CC

/- Walks: the reference (2): how an hour is served. -/
namespace Go.RS.CC
open Go Go.RS
open Go.RS.Enc (enc dec)
variable {E : VEnv}
theorem w_free (hE : E.env.fn = G) : Ok E 73 (s3 fun (s : List Served) (ch a : Int) => if 0 ≤ ch ∧ ch ≤ 1000 then some (freeR s ch a) else none) := by
  refine ok3 fun s ch a r hr => ?_
  split at hr
  · rename_i hch
    cases hr
    refine VP.bound fun hb => ?_
    simp [enc_list] at hb
    refine VP.run (A := F73) (goodV_nil) [] (by rw [hE]; rfl) (by simp [F73]) ?_; unfold F73; simp (implicitDefEqProofs := false) [enc_list]
    refine VW.loop_to 0 [] [] (freeR s ch a = -1) ?_ (fun hp f m hc => ?_)
    · obtain ⟨Inv, hI⟩ : ∃ Inv : Nat → List (Nat × PV) → VM → Prop, ∀ k f m, Inv k f m ↔ (f = [(0, enc s), (1, .int .i64 ch), (2, .int .i64 a), (7, .int .i64 k)] ∧ m = [] ∧ freeR s ch a = freeL s a (ch.toNat - k) k) := ⟨_, fun _ _ _ => Iff.rfl⟩
      refine VW.loop_cut Inv ch.toNat ?_ ?_ ?_
      · exact ⟨_, _, (hI _ _ _).2 ⟨rfl, rfl, rfl⟩, ⟨0, [], by simp [enc_list], by simp, by simp, by simp (implicitDefEqProofs := false) [enc_list], by simp (implicitDefEqProofs := false) [enc_list]⟩⟩
      · intro k f m hk hi
        obtain ⟨rfl, rfl, hs⟩ := (hI _ _ _).1 hi
        refine VW.run goodV_nil [] ?_
        have h1 : (k : Int) < ch := by omega
        simp (implicitDefEqProofs := false) [enc_list, h1]
        refine VW.loop_to 2 [(0, enc s), (1, .int .i64 ch), (2, .int .i64 a), (7, .int .i64 k), (8, .bool (isFree s k a))] [] (True) ?_ (fun hp f m hc => ?_)
        · clear hI hi
          obtain ⟨Inv, hI⟩ : ∃ Inv : Nat → List (Nat × PV) → VM → Prop, ∀ j f m, Inv j f m ↔ (∃ ok, f = [(0, enc s), (1, .int .i64 ch), (2, .int .i64 a), (7, .int .i64 k), (8, .bool ok), (9, .int .i64 j)] ∧ m = [] ∧ isFree s k a = (ok && isFree (s.drop j) k a)) := ⟨_, fun _ _ _ => Iff.rfl⟩
          refine VW.loop_cut Inv s.length ?_ ?_ ?_
          · exact ⟨_, _, (hI _ _ _).2 ⟨true, rfl, rfl, by simp⟩, ⟨0, [], by simp [enc_list], by simp, by simp, by simp (implicitDefEqProofs := false) [enc_list], by simp (implicitDefEqProofs := false) [enc_list]⟩⟩
          · intro j f m hj hi
            obtain ⟨ok, rfl, rfl, hs⟩ := (hI _ _ _).1 hi
            refine VW.run goodV_nil [] ?_
            have w1 : IntKind.i64.wrap ((j : Int) + 1) = j + 1 := wrap64 (by omega) (by omega)
            rw [List.drop_eq_getElem_cons hj, isFree, isFree, List.all_cons] at hs
            cases ok
            · simp (implicitDefEqProofs := false) [enc_list, hj, w1]
              exact ⟨_, _, (hI _ _ _).2 ⟨false, rfl, rfl, by simpa [isFree] using hs⟩, ⟨0, [], by simp [enc_list], by simp, by simp, by simp (implicitDefEqProofs := false) [enc_list], by simp (implicitDefEqProofs := false) [enc_list]⟩⟩
            · simp (implicitDefEqProofs := false) [enc_list, hj, get_Served s j hj, w1]
              repeat' (first | (refine vstep_split (fun hb => ?_) (fun hb => ?_) <;> (try simp only [Bool.not_eq_eq_eq_not, Bool.not_true, Bool.not_false, decide_eq_true_eq, decide_eq_false_iff_not] at hb) <;> simp (implicitDefEqProofs := false) [hb, enc_list, w1, hj, get_Served s j hj]) | (refine vcond_split (fun hb => ?_) (fun hb => ?_) <;> (try simp only [Bool.not_eq_eq_eq_not, Bool.not_true, Bool.not_false, decide_eq_true_eq, decide_eq_false_iff_not] at hb) <;> simp (implicitDefEqProofs := false) [hb, enc_list, w1, hj, get_Served s j hj]))
              all_goals exact ⟨_, _, (hI _ _ _).2 ⟨!decide (s[j].Channel = k) || decide (s[j].Left ≤ a), rfl, rfl, by simpa [isFree] using hs⟩, ⟨0, [], by simp [enc_list,  hb], by simp, by simp, by simp (implicitDefEqProofs := false) [enc_list,  hb], by simp (implicitDefEqProofs := false) [enc_list,  hb]⟩⟩
          · intro f m hi
            obtain ⟨ok, rfl, rfl, hs⟩ := (hI _ _ _).1 hi
            refine VW.run goodV_nil [] ?_
            rw [List.drop_length] at hs
            obtain rfl : ok = isFree s k a := by rw [hs]; simp [isFree]
            simp (implicitDefEqProofs := false) [enc_list]
            exact ⟨0, [], by simp [enc_list], by simp, by simp, by simp (implicitDefEqProofs := false) [enc_list], by simp (implicitDefEqProofs := false) [enc_list]⟩
        · simp (implicitDefEqProofs := false); refine .ofCut hc (VW.run goodV_nil [] ?_); simp (implicitDefEqProofs := false) [enc_list]
          have w2 : IntKind.i64.wrap ((k : Int) + 1) = k + 1 := wrap64 (by omega) (by omega)
          have hn : ch.toNat - k = (ch.toNat - (k + 1)) + 1 := by omega
          rw [hn, freeL] at hs
          repeat' (first | (refine vstep_split (fun hb => ?_) (fun hb => ?_) <;> (try simp only [Bool.not_eq_eq_eq_not, Bool.not_true, Bool.not_false, decide_eq_true_eq, decide_eq_false_iff_not] at hb) <;> simp (implicitDefEqProofs := false) [hb, enc_list, w2]) | (refine vcond_split (fun hb => ?_) (fun hb => ?_) <;> (try simp only [Bool.not_eq_eq_eq_not, Bool.not_true, Bool.not_false, decide_eq_true_eq, decide_eq_false_iff_not] at hb) <;> simp (implicitDefEqProofs := false) [hb, enc_list, w2]))
          · rw [hs, if_pos hb]
          · rw [if_neg (by rw [hb]; simp)] at hs
            refine VW.run goodV_nil [] ?_; simp (implicitDefEqProofs := false) [enc_list, w2]
            exact ⟨_, _, (hI _ _ _).2 ⟨rfl, rfl, hs⟩, ⟨0, [], by simp [enc_list], by simp, by simp, by simp (implicitDefEqProofs := false) [enc_list], by simp (implicitDefEqProofs := false) [enc_list]⟩⟩
      · intro f m hi
        obtain ⟨rfl, rfl, hs⟩ := (hI _ _ _).1 hi
        refine VW.run goodV_nil [] ?_
        have e0 : ((ch.toNat : Nat) : Int) = ch := by omega
        rw [Nat.sub_self, freeL] at hs
        simp (implicitDefEqProofs := false) [enc_list, e0]
        refine ⟨?_, 0, [], by simp [enc_list], by simp, by simp, by simp (implicitDefEqProofs := false) [enc_list], by simp (implicitDefEqProofs := false) [enc_list]⟩
        exact hs
    · simp (implicitDefEqProofs := false); refine .ofCut hc (VW.run goodV_nil [] ?_); simp (implicitDefEqProofs := false) [enc_list]
      exact hp.symm
  · cases hr
end Go.RS.CC

/- Walks: the reference (3): how an hour is served. -/
namespace Go.RS.CC
open Go Go.RS
open Go.RS.Enc (enc dec)
variable {E : VEnv}
def endF (b : Book) (x : Call) (a : Int) : Option Int := if 1 ≤ b.Each ∧ b.Each ≤ 60 ∧ 0 ≤ a ∧ a ≤ 7200 ∧ 1 ≤ x.Hear ∧ x.Hear ≤ 5 then some (endR b.Each x.Hear a) else none
theorem ceil_bounds {a e : Int} (h1 : 1 ≤ e) (h2 : 0 ≤ a) (h3 : a ≤ 7200) : 0 ≤ -(-a / e) ∧ -(-a / e) ≤ 7200 := by
  have g1 : -a / e ≤ 0 := Int.ediv_nonpos_of_nonpos_of_neg (by omega) (by omega)
  have g2 : -7200 ≤ -a / e := (Int.le_ediv_iff_mul_le (by omega)).2 (by omega)
  omega
theorem w_end (hE : E.env.fn = G) : Ok E 74 (s3 endF) := by
  refine ok3 fun b x a r hr => ?_
  unfold endF at hr
  split at hr
  · rename_i hc
    cases hr
    obtain ⟨h1, h2, h3, h4, h5, h6⟩ := hc
    have g1 : ceilF a b.Each = some (-(-a / b.Each)) := if_pos ⟨by omega, by omega, by omega, by omega⟩
    obtain ⟨g2, g3⟩ := ceil_bounds (e := b.Each) h1 h3 h4
    have g4 : IntKind.i64.wrap (-(-a / b.Each) + x.Hear) = -(-a / b.Each) + x.Hear := wrap64 (by omega) (by omega)
    have g5 : 0 ≤ (-(-a / b.Each) + x.Hear) * b.Each := Int.mul_nonneg (by omega) (by omega)
    have g6 : (-(-a / b.Each) + x.Hear) * b.Each ≤ 7205 * 60 := Int.mul_le_mul (by omega) (by omega) (by omega) (by omega)
    have g7 : IntKind.i64.wrap ((-(-a / b.Each) + x.Hear) * b.Each) = (-(-a / b.Each) + x.Hear) * b.Each := wrap64 (by omega) (by omega)
    refine VP.run (A := F74) ((goodV_cons (w_Ceil hE) goodV_nil)) [] (by rw [hE]; rfl) (by simp [F74]) ?_; unfold F74; simp (implicitDefEqProofs := false) [enc_list]
    simp (implicitDefEqProofs := false) [enc_list, g1, g4, g7, endR]
  · cases hr
def serveOk (b : Book) (l : List Call) (ch : Int) : Prop := 1 ≤ b.Each ∧ b.Each ≤ 60 ∧ (∀ x ∈ l, callRng x) ∧ 0 ≤ ch ∧ ch ≤ 1000 ∧ l.length ≤ 1000
instance (b : Book) (l : List Call) (ch : Int) : Decidable (serveOk b l ch) := by unfold serveOk; infer_instance
def serveF (b : Book) (l : List Call) (ch : Int) : Option (List Served) := if serveOk b l ch then some (serveR b.Each ch [] l) else none
theorem serveR_len (each ch : Int) : ∀ (out : List Served) (l : List Call), (serveR each ch out l).length = out.length + l.length
  | out, [] => rfl
  | out, x :: l => by rw [serveR, serveR_len]; simp; omega
theorem fits24 {n : Nat} (h : n ≤ 100000) : fits n 24 = true := by simp [fits]; omega
theorem fits8 {n : Nat} (h : n ≤ 100000) : fits n 8 = true := by simp [fits]; omega
abbrev sl3 (t : Nat) (out : List Served) : PV := .sl t (out.length * 3) 0 out.length (openCap + 3) 3
theorem w_serve (hE : E.env.fn = G) : Ok E 53 (s3 serveF) := by
  refine ok3 fun b l ch r hr => ?_
  unfold serveF at hr
  split at hr
  · rename_i hc
    cases hr
    obtain ⟨h1, h2, h3, h4, h5, h6⟩ := hc
    have good := goodV_cons (w_free hE) (goodV_cons (w_end hE) goodV_nil)
    refine VP.run (A := F53) (good) [] (by rw [hE]; rfl) (by simp [F53]) ?_; unfold F53; simp (implicitDefEqProofs := false) [enc_list]
    refine VW.declare 7 3 (by simp) ?_
    refine VW.loop_to 0 [(7, sl3 1 (serveR b.Each ch [] l))] [bkc b, .vec (encL (serveR b.Each ch [] l))] (True) ?_ (fun hp f m hc => ?_)
    · obtain ⟨Inv, hI⟩ : ∃ Inv : Nat → List (Nat × PV) → VM → Prop, ∀ k f m, Inv k f m ↔ (∃ out : List Served, f = [(1, enc l), (2, .int .i64 ch), (3, .ptr 0 6 0), (7, sl3 1 out), (8, .int .i64 k)] ∧ m = [bkc b, .vec (encL out)] ∧ out.length = k ∧ serveR b.Each ch [] l = serveR b.Each ch out (l.drop k)) := ⟨_, fun _ _ _ => Iff.rfl⟩
      refine VW.loop_cut Inv l.length ?_ ?_ ?_
      · exact ⟨_, _, (hI _ _ _).2 ⟨[], rfl, rfl, rfl, rfl⟩, ⟨2, [], by simp [enc_list], by simp, by simp, by simp (implicitDefEqProofs := false) [enc_list], by simp (implicitDefEqProofs := false) [enc_list]⟩⟩
      · intro k f m hk hi
        obtain ⟨out, rfl, rfl, hl, hs⟩ := (hI _ _ _).1 hi
        have w1 : IntKind.i64.wrap ((k : Int) + 1) = k + 1 := wrap64 (by omega) (by omega)
        rw [List.drop_eq_getElem_cons hk, serveR] at hs
        generalize hx : l[k] = x at hs
        obtain ⟨x1, x2, x3, x4, x5, x6⟩ : callRng x := hx ▸ h3 _ (List.getElem_mem _)
        have w2 : IntKind.i64.wrap (x.At + x.Wait) = x.At + x.Wait := wrap64 (by omega) (by omega)
        refine VW.run good [] ?_; simp (implicitDefEqProofs := false) [enc_list, hk, get_Call l k hk, hx, spliceV, w2]
        refine VW.loop_to 2 [(1, enc l), (2, .int .i64 ch), (3, .ptr 0 6 0), (7, sl3 1 out), (8, .int .i64 k), (10, .ptr 3 3 0)] [bkc b, .vec (encL out), .cells (El.cells x), .cells (El.cells (oneR b.Each out ch x))] (True) ?_ (fun hp f m hc => ?_)
        · clear hI hi hs
          obtain ⟨Inv, hI⟩ : ∃ Inv : Nat → List (Nat × PV) → VM → Prop, ∀ i f m, Inv i f m ↔ (∃ y : Served, f = [(1, enc l), (2, .int .i64 ch), (3, .ptr 0 6 0), (7, sl3 1 out), (8, .int .i64 k), (9, .ptr 2 4 0), (10, .ptr 3 3 0), (11, .int .i64 (x.At + i))] ∧ m = [bkc b, .vec (encL out), .cells (El.cells x), .cells (El.cells y)] ∧ ((y = ⟨-1, x.At + x.Wait, -1⟩ ∧ oneR b.Each out ch x = pickR b.Each out ch x (seekR out ch ((x.Wait + 1).toNat - i) (x.At + i))) ∨ (0 ≤ y.Joined ∧ y = oneR b.Each out ch x))) := ⟨_, fun _ _ _ => Iff.rfl⟩
          refine VW.loop_cut Inv (x.Wait + 1).toNat ?_ ?_ ?_
          · exact ⟨_, _, (hI _ _ _).2 ⟨⟨-1, x.At + x.Wait, -1⟩, rfl, rfl, .inl ⟨rfl, by simp [oneR]⟩⟩, ⟨4, [], by simp [enc_list], by simp, by simp, by simp (implicitDefEqProofs := false) [enc_list], by simp (implicitDefEqProofs := false) [enc_list]⟩⟩
          · intro i f m hil hi
            obtain ⟨y, rfl, rfl, hy⟩ := (hI _ _ _).1 hi
            have c1 : (i : Int) ≤ x.Wait := by omega
            rcases hy with ⟨rfl, hy⟩ | ⟨hy, rfl⟩
            · have w3 : IntKind.i64.wrap (x.At + i + 1) = x.At + i + 1 := wrap64 (by omega) (by omega)
              have c2 : (x.Wait + 1).toNat - i = (x.Wait + 1).toNat - (i + 1) + 1 := by omega
              rw [c2, seekR] at hy
              have c3 : (0 : Int) ≤ ch ∧ ch ≤ 1000 := ⟨h4, h5⟩
              have c4 : endF b x (x.At + i) = some (endR b.Each x.Hear (x.At + i)) := if_pos ⟨h1, h2, by omega, by omega, x5, x6⟩
              by_cases hf : 0 ≤ freeR out ch (x.At + i)
              · rw [if_pos hf] at hy
                refine VW.run good [] ?_; simp (implicitDefEqProofs := false) [enc_list, w2, w3, c1, c3, hf, c4, spliceV]
                have c5 : x.At + (i : Int) + 1 = x.At + ((i + 1 : Nat) : Int) := by omega
                exact ⟨_, _, (hI _ _ _).2 ⟨⟨x.At + i, endR b.Each x.Hear (x.At + i), freeR out ch (x.At + i)⟩, rfl, rfl, .inr ⟨by simp; omega, by rw [hy]; rfl⟩⟩, ⟨4, [], by simp [enc_list,  c5], by simp, by simp, by simp (implicitDefEqProofs := false) [enc_list,  c5], by simp (implicitDefEqProofs := false) [enc_list,  c5]⟩⟩
              · rw [if_neg hf] at hy
                refine VW.run good [] ?_; simp (implicitDefEqProofs := false) [enc_list, w2, w3, c1, c3, hf]
                have c5 : x.At + (i : Int) + 1 = x.At + ((i + 1 : Nat) : Int) := by omega
                rw [c5] at hy ⊢
                exact ⟨_, _, (hI _ _ _).2 ⟨⟨-1, x.At + x.Wait, -1⟩, rfl, rfl, .inl ⟨rfl, hy⟩⟩, ⟨4, [], by simp [enc_list], by simp, by simp, by simp (implicitDefEqProofs := false) [enc_list], by simp (implicitDefEqProofs := false) [enc_list]⟩⟩
            · have c6 : ¬ (oneR b.Each out ch x).Joined < 0 := by omega
              refine VW.run good [] ?_; simp (implicitDefEqProofs := false) [enc_list, w2, c1, c6]
              exact ⟨4, [], by simp [enc_list], by simp, by simp, by simp (implicitDefEqProofs := false) [enc_list], by simp (implicitDefEqProofs := false) [enc_list]⟩
          · intro f m hi
            obtain ⟨y, rfl, rfl, hy⟩ := (hI _ _ _).1 hi
            obtain rfl : y = oneR b.Each out ch x := by
              rcases hy with ⟨rfl, hy⟩ | ⟨_, hy⟩
              · rw [hy, Nat.sub_self]; rfl
              · exact hy
            have c2 : ¬ max (x.Wait + 1) 0 ≤ x.Wait := by omega
            refine VW.run good [] ?_; simp (implicitDefEqProofs := false) [enc_list, w2, c2]
            exact ⟨4, [], by simp [enc_list], by simp, by simp, by simp (implicitDefEqProofs := false) [enc_list], by simp (implicitDefEqProofs := false) [enc_list]⟩
        · have happ := fun (M : VM) (h : M[1]? = some (.vec (encL out))) => app_Served M 1 24 out (oneR b.Each out ch x) h (fits24 (by omega))
          simp (implicitDefEqProofs := false); refine .ofCut hc (VW.run good [] ?_); simp (implicitDefEqProofs := false) [enc_list, spliceV, happ]
          refine VW.run good [] ?_; simp (implicitDefEqProofs := false) [enc_list, w1]
          have e1 : (out ++ [oneR b.Each out ch x]).length = out.length + 1 := by simp
          exact ⟨_, _, (hI _ _ _).2 ⟨out ++ [oneR b.Each out ch x], rfl, rfl, by rw [e1, hl], hs⟩, ⟨2, [], by simp [enc_list,  e1], by simp, by simp, by simp (implicitDefEqProofs := false) [enc_list,  e1], by simp (implicitDefEqProofs := false) [enc_list,  e1]⟩⟩
      · intro f m hi
        obtain ⟨out, rfl, rfl, hl, hs⟩ := (hI _ _ _).1 hi
        rw [List.drop_length, serveR] at hs
        refine VW.run good [] ?_; simp (implicitDefEqProofs := false) [enc_list]
        exact ⟨2, [], by simp [enc_list,  hs], by simp, by simp, by simp (implicitDefEqProofs := false) [enc_list,  hs], by simp (implicitDefEqProofs := false) [enc_list,  hs]⟩
    · simp (implicitDefEqProofs := false); refine .ofCut hc (VW.run good [] ?_); simp (implicitDefEqProofs := false) [enc_list]
  · cases hr
end Go.RS.CC

/- Walks: the reference (4): what it answers. -/
namespace Go.RS.CC
open Go Go.RS
open Go.RS.Enc (enc dec)
variable {E : VEnv}
theorem w_CheckR (hE : E.env.fn = G) : Ok E 20 (s1 fun b => some (checkR b)) := by
  refine ok1 fun b r hr => ?_
  cases hr
  refine VP.bound fun hb => ?_
  simp [enc_list] at hb
  have good := goodV_cons (w_Lies hE) (goodV_cons (w_calls hE) goodV_nil)
  refine VP.func (A := F20) (by rw [hE]; rfl) (by simp [F20]) ?_; unfold F20
  refine VW.seq (VW.run good [] ?_); simp (implicitDefEqProofs := false) [enc_list]
  refine VW.seq_cut [(1, .ptr 0 6 0), (3, .bool (headR b))] [bkc b] (VW.run good [] ?_) ?_; simp (implicitDefEqProofs := false) [enc_list]
  · repeat' (first | (refine vstep_split (fun hb => ?_) (fun hb => ?_) <;> (try simp only [Bool.not_eq_eq_eq_not, Bool.not_true, Bool.not_false, decide_eq_true_eq, decide_eq_false_iff_not] at hb) <;> simp (implicitDefEqProofs := false) [hb, enc_list]) | (refine vcond_split (fun hb => ?_) (fun hb => ?_) <;> (try simp only [Bool.not_eq_eq_eq_not, Bool.not_true, Bool.not_false, decide_eq_true_eq, decide_eq_false_iff_not] at hb) <;> simp (implicitDefEqProofs := false) [hb, enc_list]))
    all_goals exact ⟨1, [], by simp [enc_list,  headR, *], by simp, by simp, by simp (implicitDefEqProofs := false) [enc_list,  headR, *], by simp (implicitDefEqProofs := false) [enc_list,  headR, *]⟩
  refine VW.run good [] ?_; simp (implicitDefEqProofs := false) [enc_list]
  refine VW.loop_to 0 [(1, .ptr 0 6 0), (3, .bool (headR b && b.Shares.all fun n => wi n 0 100))] [bkc b] (True) ?_ (fun hp f m hc => ?_)
  · obtain ⟨Inv, hI⟩ : ∃ Inv : Nat → List (Nat × PV) → VM → Prop, ∀ k f m, Inv k f m ↔ (∃ s, f = [(1, .ptr 0 6 0), (3, .bool s), (4, .int .i64 k)] ∧ m = [bkc b] ∧ (headR b && b.Shares.all fun n => wi n 0 100) = (s && (b.Shares.drop k).all fun n => wi n 0 100)) := ⟨_, fun _ _ _ => Iff.rfl⟩
    refine VW.loop_cut Inv b.Shares.length ?_ ?_ ?_
    · exact ⟨_, _, (hI _ _ _).2 ⟨_, rfl, rfl, rfl⟩, ⟨1, [], by simp [enc_list], by simp, by simp, by simp (implicitDefEqProofs := false) [enc_list], by simp (implicitDefEqProofs := false) [enc_list]⟩⟩
    · intro k f m hk hi
      obtain ⟨s, rfl, rfl, hs⟩ := (hI _ _ _).1 hi
      rw [List.drop_eq_getElem_cons hk, List.all_cons] at hs
      have w1 : IntKind.i64.wrap ((k : Int) + 1) = k + 1 := wrap64 (by omega) (by omega)
      cases s
      · refine VW.run good [] ?_; simp (implicitDefEqProofs := false) [enc_list]
        rw [Bool.false_and] at hs
        exact ⟨1, [], by simp [enc_list,  hs], by simp, by simp, by simp (implicitDefEqProofs := false) [enc_list,  hs], by simp (implicitDefEqProofs := false) [enc_list,  hs]⟩
      · refine VW.run good [] ?_; simp (implicitDefEqProofs := false) [enc_list, hk, get_Int _ k hk, w1]
        exact ⟨_, _, (hI _ _ _).2 ⟨wi b.Shares[k] 0 100, rfl, rfl, hs⟩, ⟨1, [], by simp [enc_list], by simp, by simp, by simp (implicitDefEqProofs := false) [enc_list], by simp (implicitDefEqProofs := false) [enc_list]⟩⟩
    · intro f m hi
      obtain ⟨s, rfl, rfl, hs⟩ := (hI _ _ _).1 hi
      rw [List.drop_length, List.all_nil, Bool.and_true] at hs
      cases s
      · refine VW.run good [] ?_; simp (implicitDefEqProofs := false) [enc_list]; exact ⟨1, [], by simp [enc_list,  hs], by simp, by simp, by simp (implicitDefEqProofs := false) [enc_list,  hs], by simp (implicitDefEqProofs := false) [enc_list,  hs]⟩
      · refine VW.run good [] ?_; simp (implicitDefEqProofs := false) [enc_list]; exact ⟨1, [], by simp [enc_list,  hs], by simp, by simp, by simp (implicitDefEqProofs := false) [enc_list,  hs], by simp (implicitDefEqProofs := false) [enc_list,  hs]⟩
  simp (implicitDefEqProofs := false); refine .ofCut hc (VW.run good [] ?_); simp (implicitDefEqProofs := false) [enc_list]
  refine VW.loop_to 2 [(3, .bool (okR b))] [] (True) ?_ (fun hp f m hc => ?_)
  · obtain ⟨Inv, hI⟩ : ∃ Inv : Nat → List (Nat × PV) → VM → Prop, ∀ k f m, Inv k f m ↔ (∃ s, f = [(1, .ptr 0 6 0), (3, .bool s), (5, .int .i64 k)] ∧ m = [bkc b] ∧ okR b = (s && (b.Hours.drop k).all (callsR b))) := ⟨_, fun _ _ _ => Iff.rfl⟩
    refine VW.loop_cut Inv b.Hours.length ?_ ?_ ?_
    · exact ⟨_, _, (hI _ _ _).2 ⟨_, rfl, rfl, rfl⟩, ⟨1, [], by simp [enc_list], by simp, by simp, by simp (implicitDefEqProofs := false) [enc_list], by simp (implicitDefEqProofs := false) [enc_list]⟩⟩
    · intro k f m hk hi
      obtain ⟨s, rfl, rfl, hs⟩ := (hI _ _ _).1 hi
      rw [List.drop_eq_getElem_cons hk, List.all_cons] at hs
      have w1 : IntKind.i64.wrap ((k : Int) + 1) = k + 1 := wrap64 (by omega) (by omega)
      cases s
      · refine VW.run good [] ?_; simp (implicitDefEqProofs := false) [enc_list]
        rw [Bool.false_and] at hs
        exact ⟨0, [], by simp [enc_list,  hs], by simp, by simp, by simp (implicitDefEqProofs := false) [enc_list,  hs], by simp (implicitDefEqProofs := false) [enc_list,  hs]⟩
      · refine VW.run good [] ?_; simp (implicitDefEqProofs := false) [enc_list, hk, get_List _ k hk, w1]
        exact ⟨_, _, (hI _ _ _).2 ⟨callsR b b.Hours[k], rfl, rfl, hs⟩, ⟨1, [], by simp [enc_list], by simp, by simp, by simp (implicitDefEqProofs := false) [enc_list], by simp (implicitDefEqProofs := false) [enc_list]⟩⟩
    · intro f m hi
      obtain ⟨s, rfl, rfl, hs⟩ := (hI _ _ _).1 hi
      rw [List.drop_length, List.all_nil, Bool.and_true] at hs
      cases s
      · refine VW.run good [] ?_; simp (implicitDefEqProofs := false) [enc_list]; exact ⟨0, [], by simp [enc_list,  hs], by simp, by simp, by simp (implicitDefEqProofs := false) [enc_list,  hs], by simp (implicitDefEqProofs := false) [enc_list,  hs]⟩
      · refine VW.run good [] ?_; simp (implicitDefEqProofs := false) [enc_list]; exact ⟨0, [], by simp [enc_list,  hs], by simp, by simp, by simp (implicitDefEqProofs := false) [enc_list,  hs], by simp (implicitDefEqProofs := false) [enc_list,  hs]⟩
  simp (implicitDefEqProofs := false); refine .ofCut hc (VW.run good [] ?_); simp (implicitDefEqProofs := false) [enc_list]
  repeat' (first | (refine vstep_split (fun hb => ?_) (fun hb => ?_) <;> (try simp only [Bool.not_eq_eq_eq_not, Bool.not_true, Bool.not_false, decide_eq_true_eq, decide_eq_false_iff_not] at hb) <;> simp (implicitDefEqProofs := false) [hb, enc_list, checkR]) | (refine vcond_split (fun hb => ?_) (fun hb => ?_) <;> (try simp only [Bool.not_eq_eq_eq_not, Bool.not_true, Bool.not_false, decide_eq_true_eq, decide_eq_false_iff_not] at hb) <;> simp (implicitDefEqProofs := false) [hb, enc_list, checkR]))
theorem w_askedR (hE : E.env.fn = G) : Ok E 52 (s3 fun b h c => some (askedR b h c)) := by
  refine ok3 fun b h c r hr => ?_
  cases hr
  have good := goodV_cons (w_Lies hE) (goodV_cons (w_CheckR hE) goodV_nil)
  refine VP.run (A := F52) (good) [] (by rw [hE]; rfl) (by simp [F52]) ?_; unfold F52; simp (implicitDefEqProofs := false) [enc_list]
  by_cases ho : okR b = true
  · simp (implicitDefEqProofs := false) [enc_list, checkR, ho]
    repeat' (first | (refine vstep_split (fun hb => ?_) (fun hb => ?_) <;> (try simp only [Bool.not_eq_eq_eq_not, Bool.not_true, Bool.not_false, decide_eq_true_eq, decide_eq_false_iff_not] at hb) <;> simp (implicitDefEqProofs := false) [hb, enc_list]) | (refine vcond_split (fun hb => ?_) (fun hb => ?_) <;> (try simp only [Bool.not_eq_eq_eq_not, Bool.not_true, Bool.not_false, decide_eq_true_eq, decide_eq_false_iff_not] at hb) <;> simp (implicitDefEqProofs := false) [hb, enc_list]))
    all_goals simp [askedR, lenm, *]
  · simp (implicitDefEqProofs := false) [enc_list, checkR, ho, askedR]
theorem w_ServeR (hE : E.env.fn = G) : Ok E 17 (s3 fun b h c => some (ServeR b h c)) := by
  refine ok3 fun b h c r hr => ?_
  cases hr
  refine VP.bound fun hb => ?_
  simp [enc_list] at hb
  have good := goodV_cons (w_askedR hE) (goodV_cons (w_serve hE) goodV_nil)
  refine VP.run (A := F17) (good) [] (by rw [hE]; rfl) (by simp [F17]) ?_; unfold F17; simp (implicitDefEqProofs := false) [enc_list]
  by_cases ha : askedR b h c = 0
  · have ho : okR b = true := by
      by_cases ho : okR b = true
      · exact ho
      · simp [askedR, ho] at ha
    have bo := okR_ok ho
    have hw : wi h 0 (lenm b.Hours.length) = true ∧ wi c 1 20 = true := by
      by_cases hx : wi h 0 (lenm b.Hours.length) = true ∧ wi c 1 20 = true
      · exact hx
      · simp [askedR, ho] at ha; exact ha
    have hm : lenm b.Hours.length = (b.Hours.length : Int) - 1 := wrap64 (by omega) (by omega)
    rw [hm, wi_iff, wi_iff] at hw
    have hh : h.toNat < b.Hours.length := by omega
    have hh' : (h.toNat : Int) = h := by omega
    have hd : hourOf b h = b.Hours[h.toNat] := by simp [hourOf, hh]
    have hmem := List.getElem_mem hh
    have hF : serveF b b.Hours[h.toNat] c = some (serveR b.Each c [] b.Hours[h.toNat]) := if_pos ⟨bo.e1, bo.e2, fun x hx => (bo.hc _ hmem x hx).1, by omega, by omega, by have := bo.hl _ hmem; omega⟩
    have hi : h < b.Hours.length := by omega
    simp (implicitDefEqProofs := false) [enc_list, ha, hw, hi, get_List b.Hours h.toNat hh, hF, ServeR, hd]
  · simp (implicitDefEqProofs := false) [enc_list, ha, ServeR]
end Go.RS.CC

/- Walks: the reference (5). -/
namespace Go.RS.CC
open Go Go.RS
open Go.RS.Enc (enc dec)
variable {E : VEnv}
theorem lostL_len : ∀ (i : Nat) (l : List Served), (lostL i l).length ≤ l.length
  | _, [] => Nat.le_refl _
  | i, s :: l => by
    unfold lostL
    split
    · have := lostL_len (i + 1) l; simp; omega
    · have := lostL_len (i + 1) l; simp; omega
abbrev sl1 (t : Nat) (out : List Int) : PV := .sl t out.length 0 out.length (openCap + 1) 1
theorem w_lostR (hE : E.env.fn = G) : Ok E 58 (s1 fun l => if l.length ≤ 1000 then some (lostL 0 l) else none) := by
  refine ok1 fun l r hr => ?_
  split at hr
  · rename_i hl
    cases hr
    refine VP.run (A := F58) (goodV_nil) [] (by rw [hE]; rfl) (by simp [F58]) ?_; unfold F58; simp (implicitDefEqProofs := false) [enc_list]
    refine VW.declare 3 1 (by simp) ?_
    refine VW.loop_to 0 [(3, sl1 0 (lostL 0 l))] [.vec (encL (lostL 0 l))] (True) ?_ (fun hp f m hc => ?_)
    · obtain ⟨Inv, hI⟩ : ∃ Inv : Nat → List (Nat × PV) → VM → Prop, ∀ k f m, Inv k f m ↔ (∃ out : List Int, f = [(0, enc l), (3, sl1 0 out), (4, .int .i64 k)] ∧ m = [.vec (encL out)] ∧ out.length ≤ k ∧ lostL 0 l = out ++ lostL k (l.drop k)) := ⟨_, fun _ _ _ => Iff.rfl⟩
      refine VW.loop_cut Inv l.length ?_ ?_ ?_
      · exact ⟨_, _, (hI _ _ _).2 ⟨[], rfl, rfl, by simp, rfl⟩, ⟨1, [], by simp [enc_list], by simp, by simp, by simp (implicitDefEqProofs := false) [enc_list], by simp (implicitDefEqProofs := false) [enc_list]⟩⟩
      · intro k f m hk hi
        obtain ⟨out, rfl, rfl, ho, hs⟩ := (hI _ _ _).1 hi
        have w1 : IntKind.i64.wrap ((k : Int) + 1) = k + 1 := wrap64 (by omega) (by omega)
        rw [List.drop_eq_getElem_cons hk, lostL] at hs
        have hf : fits (out.length + 1) 8 = true := fits8 (by omega)
        by_cases hj : l[k].Joined < 0
        · rw [if_pos hj] at hs
          refine VW.run goodV_nil [] ?_; simp (implicitDefEqProofs := false) [enc_list, hk, get_Served l k hk, hj, hf, w1, spliceV]
          have e1 : (out ++ [(k : Int)]).length = out.length + 1 := by simp
          exact ⟨_, _, (hI _ _ _).2 ⟨out ++ [(k : Int)], rfl, rfl, by rw [e1]; omega, by rw [hs]; simp⟩, ⟨1, [], by simp [enc_list,  e1], by simp, by simp, by simp (implicitDefEqProofs := false) [enc_list,  e1], by simp (implicitDefEqProofs := false) [enc_list,  e1]⟩⟩
        · rw [if_neg hj] at hs
          refine VW.run goodV_nil [] ?_; simp (implicitDefEqProofs := false) [enc_list, hk, get_Served l k hk, hj, hf, w1]
          exact ⟨_, _, (hI _ _ _).2 ⟨out, rfl, rfl, by omega, hs⟩, ⟨1, [], by simp [enc_list], by simp, by simp, by simp (implicitDefEqProofs := false) [enc_list], by simp (implicitDefEqProofs := false) [enc_list]⟩⟩
      · intro f m hi
        obtain ⟨out, rfl, rfl, ho, hs⟩ := (hI _ _ _).1 hi
        rw [List.drop_length, lostL, List.append_nil] at hs
        refine VW.run goodV_nil [] ?_; simp (implicitDefEqProofs := false) [enc_list]
        exact ⟨1, [], by simp [enc_list,  hs], by simp, by simp, by simp (implicitDefEqProofs := false) [enc_list,  hs], by simp (implicitDefEqProofs := false) [enc_list,  hs]⟩
    · simp (implicitDefEqProofs := false); refine .ofCut hc (VW.run goodV_nil [] ?_); simp (implicitDefEqProofs := false) [enc_list]
  · cases hr
theorem ServeR_len (b : Book) (h c : Int) : (ServeR b h c).1.length ≤ 12 := by
  unfold ServeR
  split
  · rename_i ha
    have ho : okR b = true := by
      by_cases ho : okR b = true
      · exact ho
      · simp [askedR, ho] at ha
    rw [serveR_len]
    have bo := okR_ok ho
    unfold hourOf
    by_cases hx : h.toNat < b.Hours.length
    · rw [List.getD_eq_getElem?_getD, List.getElem?_eq_getElem hx]; have := bo.hl _ (List.getElem_mem hx); simpa using this
    · rw [List.getD_eq_getElem?_getD, List.getElem?_eq_none (by omega)]; simp
  · simp
theorem w_LostR (hE : E.env.fn = G) : Ok E 22 (s3 fun b h c => some (LostR b h c)) := by
  refine ok3 fun b h c r hr => ?_
  cases hr
  have good := goodV_cons (w_ServeR hE) (goodV_cons (w_lostR hE) goodV_nil)
  have hl := ServeR_len b h c
  generalize hS : ServeR b h c = S at hl
  obtain ⟨s, e⟩ := S
  have hl' : s.length ≤ 1000 := by simp at hl; omega
  refine VP.run (A := F22) (good) [] (by rw [hE]; rfl) (by simp [F22]) ?_; unfold F22; simp (implicitDefEqProofs := false) [enc_list, hS]
  by_cases he : e = 0
  · simp (implicitDefEqProofs := false) [enc_list, he, hl', LostR, hS]
  · simp (implicitDefEqProofs := false) [enc_list, he, hl', LostR, hS]
theorem w_joinedR (hE : E.env.fn = G) : Ok E 63 (s2 fun l a => some (joinedR l a : Int)) := by
  refine ok2 fun l a r hr => ?_
  cases hr
  refine VP.bound fun hb => ?_
  simp [enc_list] at hb
  refine VP.run (A := F63) (goodV_nil) [] (by rw [hE]; rfl) (by simp [F63]) ?_; unfold F63; simp (implicitDefEqProofs := false) [enc_list]
  refine VW.loop_to 0 [(5, .int .i64 (joinedR l a))] [] (True) ?_ (fun hp f m hc => ?_)
  · obtain ⟨Inv, hI⟩ : ∃ Inv : Nat → List (Nat × PV) → VM → Prop, ∀ k f m, Inv k f m ↔ (f = [(0, enc l), (1, .int .i64 a), (5, .int .i64 (joinedR (l.take k) a)), (6, .int .i64 k)] ∧ m = []) := ⟨_, fun _ _ _ => Iff.rfl⟩
    refine VW.loop_cut Inv l.length ?_ ?_ ?_
    · exact ⟨_, _, (hI _ _ _).2 ⟨rfl, rfl⟩, ⟨0, [], by simp [enc_list,  joinedR], by simp, by simp, by simp (implicitDefEqProofs := false) [enc_list,  joinedR], by simp (implicitDefEqProofs := false) [enc_list,  joinedR]⟩⟩
    · intro k f m hk hi
      obtain ⟨rfl, rfl⟩ := (hI _ _ _).1 hi
      have w1 : IntKind.i64.wrap ((k : Int) + 1) = k + 1 := wrap64 (by omega) (by omega)
      have hc : joinedR (l.take k) a ≤ k := Nat.le_trans List.countP_le_length (by simp; omega)
      have w2 : IntKind.i64.wrap ((joinedR (l.take k) a : Int) + 1) = joinedR (l.take k) a + 1 := wrap64 (by omega) (by omega)
      have hn : joinedR (l.take (k + 1)) a = joinedR (l.take k) a + if (decide (0 ≤ l[k].Joined) && decide (l[k].Joined ≤ a) && decide (a < l[k].Left)) = true then 1 else 0 := by
        rw [List.take_succ_eq_append_getElem hk, joinedR, List.countP_append, List.countP_singleton]; rfl
      refine VW.run goodV_nil [] ?_; simp (implicitDefEqProofs := false) [enc_list, hk, get_Served l k hk, w1, w2]
      repeat' (first | (refine vstep_split (fun hb => ?_) (fun hb => ?_) <;> (try simp only [Bool.not_eq_eq_eq_not, Bool.not_true, Bool.not_false, decide_eq_true_eq, decide_eq_false_iff_not] at hb) <;> simp (implicitDefEqProofs := false) [hb, enc_list, w1, w2, hk, get_Served l k hk]) | (refine vcond_split (fun hb => ?_) (fun hb => ?_) <;> (try simp only [Bool.not_eq_eq_eq_not, Bool.not_true, Bool.not_false, decide_eq_true_eq, decide_eq_false_iff_not] at hb) <;> simp (implicitDefEqProofs := false) [hb, enc_list, w1, w2, hk, get_Served l k hk]))
      all_goals refine ⟨_, _, (hI _ _ _).2 ⟨rfl, rfl⟩, ⟨0, [], by simp [enc_list,  hn, *], by simp, by simp, by simp (implicitDefEqProofs := false) [enc_list,  hn, *], by simp (implicitDefEqProofs := false) [enc_list,  hn, *]⟩⟩
    · intro f m hi
      obtain ⟨rfl, rfl⟩ := (hI _ _ _).1 hi
      refine VW.run goodV_nil [] ?_; simp (implicitDefEqProofs := false) [enc_list]
      exact ⟨0, [], by simp [enc_list], by simp, by simp, by simp (implicitDefEqProofs := false) [enc_list], by simp (implicitDefEqProofs := false) [enc_list]⟩
  · simp (implicitDefEqProofs := false); refine .ofCut hc (VW.run goodV_nil [] ?_); simp (implicitDefEqProofs := false) [enc_list]
end Go.RS.CC

