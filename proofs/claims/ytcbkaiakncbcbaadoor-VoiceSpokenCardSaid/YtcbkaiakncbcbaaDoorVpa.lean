/- Kinds of data of the chapter voice. -/
import Derived.Test.YtcbkaiakncbcbaaDoorDpa
set_option linter.all false
namespace Go.RS.DC
open Go Go.RS
open Go.RS.Enc (enc dec)
structure Piece where
  Words : (List Int)
  Disc : Int
  Begin : Int
  Long : Int
  deriving DecidableEq
instance elPiece : El Piece where
  sz := 4
  cells x := [enc x.Words, enc x.Disc, enc x.Begin, enc x.Long]
  un cs := match cs with | [v0, v1, v2, v3] => (dec v0).bind fun a0 => (dec v1).bind fun a1 => (dec v2).bind fun a2 => (dec v3).bind fun a3 => some ⟨a0, a1, a2, a3⟩ | _ => none
  len _ := rfl
  un_le := by
    intro cs a h
    split at h
    · simp only [Option.bind_eq_some_iff, Option.some.injEq] at h
      obtain ⟨x0, h0, x1, h1, x2, h2, x3, h3, rfl⟩ := h
      exact ⟨Enc.dec_le h0, Enc.dec_le h1, Enc.dec_le h2, Enc.dec_le h3, trivial⟩
    · cases h
  un_cells x := by simp only [Enc.dec_enc, Option.bind_some]
  isF x := by simp only [PV.isFL, Bool.and_eq_true, and_true]; exact ⟨rfl, rfl, rfl, rfl⟩
instance encPiece : Enc Piece := encOfEl Piece
@[simp] theorem sz_Piece : El.sz Piece = 4 := rfl
@[simp] theorem cells_Piece (x : Piece) : El.cells x = [enc x.Words, enc x.Disc, enc x.Begin, enc x.Long] := rfl
@[simp] theorem enc_Piece (x : Piece) : enc x = PV.agg [enc x.Words, enc x.Disc, enc x.Begin, enc x.Long] := rfl
@[simp] theorem dec_Piece (v0 v1 v2 v3 : PV) : (dec (PV.agg [v0, v1, v2, v3]) : Option Piece) = (dec v0).bind fun a0 => (dec v1).bind fun a1 => (dec v2).bind fun a2 => (dec v3).bind fun a3 => some ⟨a0, a1, a2, a3⟩ := rfl
@[simp] theorem eta_Piece (x : Piece) : (Piece.mk x.Words x.Disc x.Begin x.Long) = x := rfl
@[simp] theorem decl_Piece (ex : Bool) (q : Nat) (l : List Piece) (h : q = l.length) : (dec (PV.lst ex q 4 (encL l)) : Option (List Piece)) = some l := by subst h; exact dec_lst ex l
theorem get_Piece (l : List Piece) (k : Nat) (h : k < l.length) : List.drop (k * 4) (encL l) = [enc l[k].Words, enc l[k].Disc, enc l[k].Begin, enc l[k].Long] ++ encL (l.drop (k + 1)) := encL_get l k h
@[simp] theorem decf_Piece (M : VM) (t : Nat) (out : List Piece) (h : M[t]? = some (.vec (encL out))) : (dec (fzSl M t (out.length * 4) 0 out.length (openCap + 4) 4) : Option (List Piece)) = some out := dec_fzSl M t out h (by decide)
@[simp] theorem lef_Piece (M : VM) (t : Nat) (out : List Piece) (h : M[t]? = some (.vec (encL out))) : (fzSl M t (out.length * 4) 0 out.length (openCap + 4) 4).le (.lst false out.length 4 (encL out)) = True := le_fzSl M t out h (by decide)
structure Book where
  Discs : (List Int)
  Pieces : (List Piece)
  Pause : Span
  Rest : Span
  deriving DecidableEq
instance elBook : El Book where
  sz := 6
  cells x := [enc x.Discs, enc x.Pieces, enc x.Pause.Low, enc x.Pause.High, enc x.Rest.Low, enc x.Rest.High]
  un cs := match cs with | [v0, v1, v2, v3, v4, v5] => (dec v0).bind fun a0 => (dec v1).bind fun a1 => (dec v2).bind fun a2 => (dec v3).bind fun a3 => (dec v4).bind fun a4 => (dec v5).bind fun a5 => some ⟨a0, a1, ⟨a2, a3⟩, ⟨a4, a5⟩⟩ | _ => none
  len _ := rfl
  un_le := by
    intro cs a h
    split at h
    · simp only [Option.bind_eq_some_iff, Option.some.injEq] at h
      obtain ⟨x0, h0, x1, h1, x2, h2, x3, h3, x4, h4, x5, h5, rfl⟩ := h
      exact ⟨Enc.dec_le h0, Enc.dec_le h1, Enc.dec_le h2, Enc.dec_le h3, Enc.dec_le h4, Enc.dec_le h5, trivial⟩
    · cases h
  un_cells x := by simp only [Enc.dec_enc, Option.bind_some]
  isF x := by simp only [PV.isFL, Bool.and_eq_true, and_true]; exact ⟨rfl, rfl, rfl, rfl, rfl, rfl⟩
instance encBook : Enc Book := encOfEl Book
@[simp] theorem sz_Book : El.sz Book = 6 := rfl
@[simp] theorem cells_Book (x : Book) : El.cells x = [enc x.Discs, enc x.Pieces, enc x.Pause.Low, enc x.Pause.High, enc x.Rest.Low, enc x.Rest.High] := rfl
@[simp] theorem enc_Book (x : Book) : enc x = PV.agg [enc x.Discs, enc x.Pieces, enc x.Pause.Low, enc x.Pause.High, enc x.Rest.Low, enc x.Rest.High] := rfl
@[simp] theorem dec_Book (v0 v1 v2 v3 v4 v5 : PV) : (dec (PV.agg [v0, v1, v2, v3, v4, v5]) : Option Book) = (dec v0).bind fun a0 => (dec v1).bind fun a1 => (dec v2).bind fun a2 => (dec v3).bind fun a3 => (dec v4).bind fun a4 => (dec v5).bind fun a5 => some ⟨a0, a1, ⟨a2, a3⟩, ⟨a4, a5⟩⟩ := rfl
@[simp] theorem eta_Book (x : Book) : (Book.mk x.Discs x.Pieces (Span.mk x.Pause.Low x.Pause.High) (Span.mk x.Rest.Low x.Rest.High)) = x := rfl
@[simp] theorem decl_Book (ex : Bool) (q : Nat) (l : List Book) (h : q = l.length) : (dec (PV.lst ex q 6 (encL l)) : Option (List Book)) = some l := by subst h; exact dec_lst ex l
@[simp] theorem decf_Book (M : VM) (t : Nat) (out : List Book) (h : M[t]? = some (.vec (encL out))) : (dec (fzSl M t (out.length * 6) 0 out.length (openCap + 6) 6) : Option (List Book)) = some out := dec_fzSl M t out h (by decide)
@[simp] theorem lef_Book (M : VM) (t : Nat) (out : List Book) (h : M[t]? = some (.vec (encL out))) : (fzSl M t (out.length * 6) 0 out.length (openCap + 6) 6).le (.lst false out.length 6 (encL out)) = True := le_fzSl M t out h (by decide)
structure Start where
  Piece : Int
  At : Int
  deriving DecidableEq
instance elStart : El Start where
  sz := 2
  cells x := [enc x.Piece, enc x.At]
  un cs := match cs with | [v0, v1] => (dec v0).bind fun a0 => (dec v1).bind fun a1 => some ⟨a0, a1⟩ | _ => none
  len _ := rfl
  un_le := by
    intro cs a h
    split at h
    · simp only [Option.bind_eq_some_iff, Option.some.injEq] at h
      obtain ⟨x0, h0, x1, h1, rfl⟩ := h
      exact ⟨Enc.dec_le h0, Enc.dec_le h1, trivial⟩
    · cases h
  un_cells x := by simp only [Enc.dec_enc, Option.bind_some]
  isF x := by simp only [PV.isFL, Bool.and_eq_true, and_true]; exact ⟨rfl, rfl⟩
instance encStart : Enc Start := encOfEl Start
@[simp] theorem sz_Start : El.sz Start = 2 := rfl
@[simp] theorem cells_Start (x : Start) : El.cells x = [enc x.Piece, enc x.At] := rfl
@[simp] theorem enc_Start (x : Start) : enc x = PV.agg [enc x.Piece, enc x.At] := rfl
@[simp] theorem dec_Start (v0 v1 : PV) : (dec (PV.agg [v0, v1]) : Option Start) = (dec v0).bind fun a0 => (dec v1).bind fun a1 => some ⟨a0, a1⟩ := rfl
@[simp] theorem eta_Start (x : Start) : (Start.mk x.Piece x.At) = x := rfl
@[simp] theorem decl_Start (ex : Bool) (q : Nat) (l : List Start) (h : q = l.length) : (dec (PV.lst ex q 2 (encL l)) : Option (List Start)) = some l := by subst h; exact dec_lst ex l
theorem get_Start (l : List Start) (k : Nat) (h : k < l.length) : List.drop (k * 2) (encL l) = [enc l[k].Piece, enc l[k].At] ++ encL (l.drop (k + 1)) := encL_get l k h
theorem take_Start (l : List Start) (k : Nat) : List.take (k * 2) (encL l) = encL (l.take k) := encL_take l k
@[simp] theorem decf_Start (M : VM) (t : Nat) (out : List Start) (h : M[t]? = some (.vec (encL out))) : (dec (fzSl M t (out.length * 2) 0 out.length (openCap + 2) 2) : Option (List Start)) = some out := dec_fzSl M t out h (by decide)
@[simp] theorem lef_Start (M : VM) (t : Nat) (out : List Start) (h : M[t]? = some (.vec (encL out))) : (fzSl M t (out.length * 2) 0 out.length (openCap + 2) 2).le (.lst false out.length 2 (encL out)) = True := le_fzSl M t out h (by decide)
theorem app_Start (M : VM) (t bytes : Nat) (out : List Start) (x : Start) (h : M[t]? = some (.vec (encL out))) (hf : fits (out.length + 1) bytes = true) :
    appendV M 2 bytes (.sl t (out.length * 2) 0 out.length (openCap + 2) 2) (.lst true 1 2 [PV.int .i64 x.Piece, PV.int .i64 x.At]) = some (.sl t ((out.length + 1) * 2) 0 (out.length + 1) (openCap + 2) 2, M.set t (.vec (encL (out ++ [x])))) := append_one M t bytes out x h (by decide) hf rfl
structure Asked where
  Text : (List Int)
  From : Int
  Pip : Int
  deriving DecidableEq
instance elAsked : El Asked where
  sz := 3
  cells x := [enc x.Text, enc x.From, enc x.Pip]
  un cs := match cs with | [v0, v1, v2] => (dec v0).bind fun a0 => (dec v1).bind fun a1 => (dec v2).bind fun a2 => some ⟨a0, a1, a2⟩ | _ => none
  len _ := rfl
  un_le := by
    intro cs a h
    split at h
    · simp only [Option.bind_eq_some_iff, Option.some.injEq] at h
      obtain ⟨x0, h0, x1, h1, x2, h2, rfl⟩ := h
      exact ⟨Enc.dec_le h0, Enc.dec_le h1, Enc.dec_le h2, trivial⟩
    · cases h
  un_cells x := by simp only [Enc.dec_enc, Option.bind_some]
  isF x := by simp only [PV.isFL, Bool.and_eq_true, and_true]; exact ⟨rfl, rfl, rfl⟩
instance encAsked : Enc Asked := encOfEl Asked
@[simp] theorem sz_Asked : El.sz Asked = 3 := rfl
@[simp] theorem cells_Asked (x : Asked) : El.cells x = [enc x.Text, enc x.From, enc x.Pip] := rfl
@[simp] theorem enc_Asked (x : Asked) : enc x = PV.agg [enc x.Text, enc x.From, enc x.Pip] := rfl
@[simp] theorem dec_Asked (v0 v1 v2 : PV) : (dec (PV.agg [v0, v1, v2]) : Option Asked) = (dec v0).bind fun a0 => (dec v1).bind fun a1 => (dec v2).bind fun a2 => some ⟨a0, a1, a2⟩ := rfl
@[simp] theorem eta_Asked (x : Asked) : (Asked.mk x.Text x.From x.Pip) = x := rfl
@[simp] theorem decl_Asked (ex : Bool) (q : Nat) (l : List Asked) (h : q = l.length) : (dec (PV.lst ex q 3 (encL l)) : Option (List Asked)) = some l := by subst h; exact dec_lst ex l
@[simp] theorem decf_Asked (M : VM) (t : Nat) (out : List Asked) (h : M[t]? = some (.vec (encL out))) : (dec (fzSl M t (out.length * 3) 0 out.length (openCap + 3) 3) : Option (List Asked)) = some out := dec_fzSl M t out h (by decide)
@[simp] theorem lef_Asked (M : VM) (t : Nat) (out : List Asked) (h : M[t]? = some (.vec (encL out))) : (fzSl M t (out.length * 3) 0 out.length (openCap + 3) 3).le (.lst false out.length 3 (encL out)) = True := le_fzSl M t out h (by decide)
structure Found where
  pieces : Int
  piece : Int
  at_ : Int
  deriving DecidableEq
instance elFound : El Found where
  sz := 3
  cells x := [enc x.pieces, enc x.piece, enc x.at_]
  un cs := match cs with | [v0, v1, v2] => (dec v0).bind fun a0 => (dec v1).bind fun a1 => (dec v2).bind fun a2 => some ⟨a0, a1, a2⟩ | _ => none
  len _ := rfl
  un_le := by
    intro cs a h
    split at h
    · simp only [Option.bind_eq_some_iff, Option.some.injEq] at h
      obtain ⟨x0, h0, x1, h1, x2, h2, rfl⟩ := h
      exact ⟨Enc.dec_le h0, Enc.dec_le h1, Enc.dec_le h2, trivial⟩
    · cases h
  un_cells x := by simp only [Enc.dec_enc, Option.bind_some]
  isF x := by simp only [PV.isFL, Bool.and_eq_true, and_true]; exact ⟨rfl, rfl, rfl⟩
instance encFound : Enc Found := encOfEl Found
@[simp] theorem sz_Found : El.sz Found = 3 := rfl
@[simp] theorem cells_Found (x : Found) : El.cells x = [enc x.pieces, enc x.piece, enc x.at_] := rfl
@[simp] theorem enc_Found (x : Found) : enc x = PV.agg [enc x.pieces, enc x.piece, enc x.at_] := rfl
@[simp] theorem dec_Found (v0 v1 v2 : PV) : (dec (PV.agg [v0, v1, v2]) : Option Found) = (dec v0).bind fun a0 => (dec v1).bind fun a1 => (dec v2).bind fun a2 => some ⟨a0, a1, a2⟩ := rfl
@[simp] theorem eta_Found (x : Found) : (Found.mk x.pieces x.piece x.at_) = x := rfl
@[simp] theorem decl_Found (ex : Bool) (q : Nat) (l : List Found) (h : q = l.length) : (dec (PV.lst ex q 3 (encL l)) : Option (List Found)) = some l := by subst h; exact dec_lst ex l
@[simp] theorem decf_Found (M : VM) (t : Nat) (out : List Found) (h : M[t]? = some (.vec (encL out))) : (dec (fzSl M t (out.length * 3) 0 out.length (openCap + 3) 3) : Option (List Found)) = some out := dec_fzSl M t out h (by decide)
@[simp] theorem lef_Found (M : VM) (t : Nat) (out : List Found) (h : M[t]? = some (.vec (encL out))) : (fzSl M t (out.length * 3) 0 out.length (openCap + 3) 3).le (.lst false out.length 3 (encL out)) = True := le_fzSl M t out h (by decide)
structure Spot where
  at_ : Int
  time : Int
  deriving DecidableEq
instance elSpot : El Spot where
  sz := 2
  cells x := [enc x.at_, enc x.time]
  un cs := match cs with | [v0, v1] => (dec v0).bind fun a0 => (dec v1).bind fun a1 => some ⟨a0, a1⟩ | _ => none
  len _ := rfl
  un_le := by
    intro cs a h
    split at h
    · simp only [Option.bind_eq_some_iff, Option.some.injEq] at h
      obtain ⟨x0, h0, x1, h1, rfl⟩ := h
      exact ⟨Enc.dec_le h0, Enc.dec_le h1, trivial⟩
    · cases h
  un_cells x := by simp only [Enc.dec_enc, Option.bind_some]
  isF x := by simp only [PV.isFL, Bool.and_eq_true, and_true]; exact ⟨rfl, rfl⟩
instance encSpot : Enc Spot := encOfEl Spot
@[simp] theorem sz_Spot : El.sz Spot = 2 := rfl
@[simp] theorem cells_Spot (x : Spot) : El.cells x = [enc x.at_, enc x.time] := rfl
@[simp] theorem enc_Spot (x : Spot) : enc x = PV.agg [enc x.at_, enc x.time] := rfl
@[simp] theorem dec_Spot (v0 v1 : PV) : (dec (PV.agg [v0, v1]) : Option Spot) = (dec v0).bind fun a0 => (dec v1).bind fun a1 => some ⟨a0, a1⟩ := rfl
@[simp] theorem eta_Spot (x : Spot) : (Spot.mk x.at_ x.time) = x := rfl
@[simp] theorem decl_Spot (ex : Bool) (q : Nat) (l : List Spot) (h : q = l.length) : (dec (PV.lst ex q 2 (encL l)) : Option (List Spot)) = some l := by subst h; exact dec_lst ex l
@[simp] theorem decf_Spot (M : VM) (t : Nat) (out : List Spot) (h : M[t]? = some (.vec (encL out))) : (dec (fzSl M t (out.length * 2) 0 out.length (openCap + 2) 2) : Option (List Spot)) = some out := dec_fzSl M t out h (by decide)
@[simp] theorem lef_Spot (M : VM) (t : Nat) (out : List Spot) (h : M[t]? = some (.vec (encL out))) : (fzSl M t (out.length * 2) 0 out.length (openCap + 2) 2).le (.lst false out.length 2 (encL out)) = True := le_fzSl M t out h (by decide)
structure End where
  pieces : Int
  first : Int
  deriving DecidableEq
instance elEnd : El End where
  sz := 2
  cells x := [enc x.pieces, enc x.first]
  un cs := match cs with | [v0, v1] => (dec v0).bind fun a0 => (dec v1).bind fun a1 => some ⟨a0, a1⟩ | _ => none
  len _ := rfl
  un_le := by
    intro cs a h
    split at h
    · simp only [Option.bind_eq_some_iff, Option.some.injEq] at h
      obtain ⟨x0, h0, x1, h1, rfl⟩ := h
      exact ⟨Enc.dec_le h0, Enc.dec_le h1, trivial⟩
    · cases h
  un_cells x := by simp only [Enc.dec_enc, Option.bind_some]
  isF x := by simp only [PV.isFL, Bool.and_eq_true, and_true]; exact ⟨rfl, rfl⟩
instance encEnd : Enc End := encOfEl End
@[simp] theorem sz_End : El.sz End = 2 := rfl
@[simp] theorem cells_End (x : End) : El.cells x = [enc x.pieces, enc x.first] := rfl
@[simp] theorem enc_End (x : End) : enc x = PV.agg [enc x.pieces, enc x.first] := rfl
@[simp] theorem dec_End (v0 v1 : PV) : (dec (PV.agg [v0, v1]) : Option End) = (dec v0).bind fun a0 => (dec v1).bind fun a1 => some ⟨a0, a1⟩ := rfl
@[simp] theorem eta_End (x : End) : (End.mk x.pieces x.first) = x := rfl
@[simp] theorem decl_End (ex : Bool) (q : Nat) (l : List End) (h : q = l.length) : (dec (PV.lst ex q 2 (encL l)) : Option (List End)) = some l := by subst h; exact dec_lst ex l
@[simp] theorem decf_End (M : VM) (t : Nat) (out : List End) (h : M[t]? = some (.vec (encL out))) : (dec (fzSl M t (out.length * 2) 0 out.length (openCap + 2) 2) : Option (List End)) = some out := dec_fzSl M t out h (by decide)
@[simp] theorem lef_End (M : VM) (t : Nat) (out : List End) (h : M[t]? = some (.vec (encL out))) : (fzSl M t (out.length * 2) 0 out.length (openCap + 2) 2).le (.lst false out.length 2 (encL out)) = True := le_fzSl M t out h (by decide)
end Go.RS.DC

/- The chapter voice, as plain functions (1): books, texts, the fewest pieces. -/
namespace Go.RS.DC
open Go Go.RS
open Go.RS.Enc (enc dec)
def spanOk (s : Span) (a b : Int) : Bool := decide (a ≤ s.Low) && decide (s.Low ≤ s.High) && decide (s.High ≤ b)
def wordsOk (l : List Int) (most : Int) : Bool := wi l.length 1 most && l.all fun n => wi n 0 299
def discOf (b : Book) (x : Piece) : Int := b.Discs.getD x.Disc.toNat 1
def pieceOk (b : Book) (x : Piece) : Bool := wordsOk x.Words 4 && wi x.Disc 0 (b.Discs.length - 1) && wi x.Begin 0 (discOf b x - 1) && wi x.Long 1 (discOf b x)
def headB (b : Book) : Bool := wi b.Discs.length 1 4 && wi b.Pieces.length 1 10 && spanOk b.Pause 0 200 && spanOk b.Rest 0 500
def okB (b : Book) : Bool := headB b && b.Discs.all (fun n => wi n 1 500) && b.Pieces.all (pieceOk b)
def checkB (b : Book) : Int := if okB b then 0 else 50
theorem spanOk_iff (s : Span) (a b : Int) : spanOk s a b = true ↔ a ≤ s.Low ∧ s.Low ≤ s.High ∧ s.High ≤ b := by
  simp only [spanOk, Bool.and_eq_true, decide_eq_true_eq, and_assoc]
structure PieceOk (b : Book) (x : Piece) : Prop where
  w1 : 1 ≤ x.Words.length
  w2 : x.Words.length ≤ 4
  wr : ∀ n ∈ x.Words, 0 ≤ n ∧ n ≤ 299
  d0 : 0 ≤ x.Disc
  d1 : x.Disc < b.Discs.length
  t1 : 1 ≤ discOf b x
  t2 : discOf b x ≤ 500
  b0 : 0 ≤ x.Begin
  b1 : x.Begin < discOf b x
  l1 : 1 ≤ x.Long
  l2 : x.Long ≤ discOf b x
structure BookOk (b : Book) : Prop where
  d1 : 1 ≤ b.Discs.length
  d2 : b.Discs.length ≤ 4
  p1 : 1 ≤ b.Pieces.length
  p2 : b.Pieces.length ≤ 10
  a0 : 0 ≤ b.Pause.Low
  a1 : b.Pause.Low ≤ b.Pause.High
  a2 : b.Pause.High ≤ 200
  r0 : 0 ≤ b.Rest.Low
  r1 : b.Rest.Low ≤ b.Rest.High
  r2 : b.Rest.High ≤ 500
  ds : ∀ n ∈ b.Discs, 1 ≤ n ∧ n ≤ 500
  ps : ∀ x ∈ b.Pieces, PieceOk b x
theorem okB_ok {b : Book} (h : okB b = true) : BookOk b := by
  simp only [okB, headB, Bool.and_eq_true, wi_iff, spanOk_iff, List.all_eq_true] at h
  obtain ⟨⟨⟨⟨⟨⟨d1, d2⟩, p1, p2⟩, a0, a1, a2⟩, r0, r1, r2⟩, ds⟩, ps⟩ := h
  have hd : ∀ x : Piece, 0 ≤ x.Disc → x.Disc ≤ b.Discs.length - 1 → discOf b x ∈ b.Discs := fun x h0 h1 => by
    unfold discOf
    have hl : x.Disc.toNat < b.Discs.length := by omega
    rw [List.getD_eq_getElem?_getD, List.getElem?_eq_getElem hl]
    exact List.getElem_mem hl
  refine ⟨by omega, by omega, by omega, by omega, a0, a1, a2, r0, r1, r2, ds, fun x hx => ?_⟩
  have := ps x hx
  simp only [pieceOk, wordsOk, Bool.and_eq_true, wi_iff, List.all_eq_true] at this
  obtain ⟨⟨⟨⟨⟨w1, w2⟩, wr⟩, e0, e1⟩, b0, b1⟩, l1, l2⟩ := this
  have hm := ds _ (hd x e0 e1)
  exact ⟨by omega, by omega, wr, e0, by omega, hm.1, hm.2, b0, by omega, l1, l2⟩
def WordsR (r : Reading) : List Int × Int := if (wi r.Hour 0 99 && wi r.Minute 0 99 && wi r.Second 0 99) = true then ([r.Hour, r.Minute + 100, r.Second + 200], 0) else ([], 52)
/-! ### The fewest pieces -/
/-- Does a piece say what comes next? -/
def fitsB (x : Piece) (text : List Int) (p : Nat) : Bool := decide (p + x.Words.length ≤ text.length) && decide ((text.drop p).take x.Words.length = x.Words)
/-- The best of what the first pieces let be; each one goes on with 'cand'. -/
def bestF (cand : Nat → Option (List Int)) : Nat → Option (List Int)
  | 0 => none
  | n + 1 => match cand n, bestF cand n with
    | none, m => m
    | some l, none => some ((n : Int) :: l)
    | some l, some m => if l.length + 1 < m.length then some ((n : Int) :: l) else some m
def fewF (b : Book) (sel : Nat → Bool) (text : List Int) : Nat → Nat → Option (List Int)
  | 0, p => if p = text.length then some [] else none
  | f + 1, p => if p = text.length then some [] else
    bestF (fun i => if sel i && fitsB (b.Pieces.getD i ⟨[], 0, 0, 0⟩) text p then fewF b sel text f (p + (b.Pieces.getD i ⟨[], 0, 0, 0⟩).Words.length) else none) b.Pieces.length
def sayF (b : Book) (sel : Nat → Bool) (text : List Int) (p : Nat) : Option (List Int) := fewF b sel text (text.length - p) p
def pieceAt (b : Book) (i : Int) : Piece := b.Pieces.getD i.toNat ⟨[], 0, 0, 0⟩
/-- Pieces say what comes behind a place. -/
def Says (b : Book) (sel : Nat → Bool) (text : List Int) : Nat → List Int → Prop
  | p, [] => p = text.length
  | p, k :: l => 0 ≤ k ∧ k < b.Pieces.length ∧ sel k.toNat = true ∧ fitsB (pieceAt b k) text p = true ∧ Says b sel text (p + (pieceAt b k).Words.length) l
theorem bestF_congr {c d : Nat → Option (List Int)} : ∀ n : Nat, (∀ i, i < n → c i = d i) → bestF c n = bestF d n
  | 0, _ => rfl
  | n + 1, h => by rw [bestF, bestF, h n (by omega), bestF_congr n fun i hi => h i (by omega)]
theorem bestF_some {cand : Nat → Option (List Int)} : ∀ (n : Nat) {m : List Int}, bestF cand n = some m → ∃ i l, i < n ∧ cand i = some l ∧ m = (i : Int) :: l
  | 0, m, h => by cases h
  | n + 1, m, h => by
    rw [bestF] at h
    split at h
    · obtain ⟨i, l, h1, h2, h3⟩ := bestF_some n h
      exact ⟨i, l, by omega, h2, h3⟩
    · rename_i l h1 h2
      cases h
      exact ⟨n, l, by omega, h1, rfl⟩
    · rename_i l q h1 h2
      split at h
      · cases h; exact ⟨n, l, by omega, h1, rfl⟩
      · cases h
        obtain ⟨i, l', h3, h4, h5⟩ := bestF_some n h2
        exact ⟨i, l', by omega, h4, h5⟩
/-- None is shorter, and of as many none is before. -/
theorem bestF_least {cand : Nat → Option (List Int)} : ∀ (n : Nat) {i : Nat} {l : List Int}, i < n → cand i = some l → ∃ (j : Nat) (m : List Int), bestF cand n = some ((j : Int) :: m) ∧ cand j = some m ∧ j < n ∧ (m.length < l.length ∨ m.length = l.length ∧ j ≤ i)
  | 0, i, l, h, _ => by omega
  | n + 1, i, l, h, hc => by
    by_cases hi : i = n
    · subst hi
      rw [bestF, hc]
      cases hb : bestF cand i with
      | none => exact ⟨i, l, rfl, hc, by omega, .inr ⟨rfl, Nat.le_refl _⟩⟩
      | some q =>
        obtain ⟨j, m, h1, h2, h3⟩ := bestF_some i hb
        subst h3
        simp only
        by_cases hlt : l.length + 1 < ((j : Int) :: m).length
        · rw [if_pos hlt]; exact ⟨i, l, rfl, hc, by omega, .inr ⟨rfl, Nat.le_refl _⟩⟩
        · rw [if_neg hlt]
          simp only [List.length_cons] at hlt
          exact ⟨j, m, rfl, h2, by omega, by omega⟩
    · obtain ⟨j, m, h1, h2, h3, h4⟩ := bestF_least n (by omega) hc
      rw [bestF, h1]
      cases hb : cand n with
      | none => exact ⟨j, m, rfl, h2, by omega, h4⟩
      | some q =>
        simp only
        by_cases hlt : q.length + 1 < ((j : Int) :: m).length
        · rw [if_pos hlt]
          simp only [List.length_cons] at hlt
          exact ⟨n, q, rfl, hb, by omega, by omega⟩
        · rw [if_neg hlt]; exact ⟨j, m, rfl, h2, by omega, h4⟩
theorem bestF_none {cand : Nat → Option (List Int)} {n : Nat} : bestF cand n = none ↔ ∀ i, i < n → cand i = none := by
  constructor
  · intro h i hi
    cases hc : cand i with
    | none => rfl
    | some l =>
      obtain ⟨j, m, h1, _⟩ := bestF_least n hi hc
      rw [h] at h1; cases h1
  · intro h
    cases hb : bestF cand n with
    | none => rfl
    | some m =>
      obtain ⟨i, l, h1, h2, _⟩ := bestF_some n hb
      rw [h i h1] at h2; cases h2
theorem fits_le {x : Piece} {text : List Int} {p : Nat} (h : fitsB x text p = true) : p + x.Words.length ≤ text.length := by
  simp only [fitsB, Bool.and_eq_true, decide_eq_true_eq] at h
  exact h.1
theorem piece_ok {b : Book} (o : BookOk b) {i : Nat} (h : i < b.Pieces.length) : PieceOk b (b.Pieces.getD i ⟨[], 0, 0, 0⟩) := by
  rw [List.getD_eq_getElem?_getD, List.getElem?_eq_getElem h]
  exact o.ps _ (List.getElem_mem h)
theorem pieceAt_nat (b : Book) (i : Nat) : pieceAt b i = b.Pieces.getD i ⟨[], 0, 0, 0⟩ := by unfold pieceAt; rw [Int.toNat_natCast]
/-- More fuel changes nothing. -/
theorem fewF_fuel {b : Book} (o : BookOk b) (sel : Nat → Bool) (text : List Int) : ∀ (f g p : Nat), text.length - p ≤ f → text.length - p ≤ g → p ≤ text.length → fewF b sel text f p = fewF b sel text g p
  | 0, 0, p, _, _, _ => rfl
  | 0, g + 1, p, h, _, hp => by
    have : p = text.length := by omega
    rw [fewF, fewF, if_pos this, if_pos this]
  | f + 1, 0, p, _, h, hp => by
    have : p = text.length := by omega
    rw [fewF, fewF, if_pos this, if_pos this]
  | f + 1, g + 1, p, h1, h2, hp => by
    rw [fewF, fewF]
    split
    · rfl
    · rename_i hne
      refine bestF_congr _ fun i hi => ?_
      have w := (piece_ok o hi).w1
      split
      · rename_i hc
        simp only [Bool.and_eq_true] at hc
        have := fits_le hc.2
        exact fewF_fuel o sel text f g _ (by omega) (by omega) (by omega)
      · rfl
theorem sayF_end {b : Book} (sel : Nat → Bool) (text : List Int) : sayF b sel text text.length = some [] := by
  unfold sayF
  rw [Nat.sub_self, fewF, if_pos rfl]
theorem sayF_step {b : Book} (o : BookOk b) (sel : Nat → Bool) (text : List Int) {p : Nat} (hp : p < text.length) :
    sayF b sel text p = bestF (fun i => if sel i && fitsB (b.Pieces.getD i ⟨[], 0, 0, 0⟩) text p then sayF b sel text (p + (b.Pieces.getD i ⟨[], 0, 0, 0⟩).Words.length) else none) b.Pieces.length := by
  obtain ⟨f, hf⟩ : ∃ f, text.length - p = f + 1 := ⟨text.length - p - 1, by omega⟩
  unfold sayF
  rw [hf, fewF, if_neg (by omega)]
  refine bestF_congr _ fun i hi => ?_
  have w := (piece_ok o hi).w1
  split
  · rename_i hc
    simp only [Bool.and_eq_true] at hc
    have := fits_le hc.2
    exact fewF_fuel o sel text _ _ _ (by omega) (by omega) (by omega)
  · rfl
theorem sayF_says {b : Book} (o : BookOk b) (sel : Nat → Bool) (text : List Int) : ∀ (n p : Nat) {l : List Int}, text.length - p = n → p ≤ text.length → sayF b sel text p = some l → Says b sel text p l := by
  intro n
  induction n using Nat.strongRecOn with
  | _ n ih =>
    intro p l hn hp h
    by_cases he : p = text.length
    · subst he
      rw [sayF_end] at h
      cases h
      rfl
    · rw [sayF_step o sel text (by omega)] at h
      obtain ⟨i, m, h1, h2, rfl⟩ := bestF_some _ h
      have w := (piece_ok o h1).w1
      split at h2
      · rename_i hc
        simp only [Bool.and_eq_true] at hc
        have := fits_le hc.2
        refine ⟨by omega, by omega, ?_, ?_, ?_⟩
        · rw [Int.toNat_natCast]; exact hc.1
        · rw [pieceAt_nat]; exact hc.2
        · rw [pieceAt_nat]; exact ih _ (by omega) _ rfl (by omega) h2
      · cases h2
end Go.RS.DC

/- The chapter voice, as plain functions (2): the pieces that are needed. -/
namespace Go.RS.DC
open Go Go.RS
open Go.RS.Enc (enc dec)
/-! ### Lists that climb -/
/-- The first of several that are tried. -/
def tryF {α : Type} (g : Nat → Option α) : Nat → Nat → Option α
  | 0, _ => none
  | c + 1, k => match g k with
    | some x => some x
    | none => tryF g c (k + 1)
def chooseF (ok : List Int → Bool) (n : Nat) : Nat → Nat → List Int → Option (List Int)
  | 0, _, l => if ok l then some l else none
  | r + 1, f, l => tryF (fun k => chooseF ok n r (k + 1) (l ++ [(k : Int)])) (n - f) f
/-- The first of the shortest. -/
def needF (ok : List Int → Bool) (n : Nat) : Option (List Int) := tryF (fun many => chooseF ok n many 0 []) (n + 1) 0
/-! ### Sets as numbers -/
/-! ### Texts and the pieces they need -/
def selL (l : List Int) (i : Nat) : Bool := l.contains (i : Int)
def saysAll (b : Book) (texts : List (List Int)) (l : List Int) : Bool := texts.all fun t => (sayF b (selL l) t 0).isSome
def textsOk (texts : List (List Int)) : Bool := wi texts.length 1 6 && texts.all fun t => wordsOk t 8
def NeededR (b : Book) (texts : List (List Int)) : List Int × Int :=
  if okB b then (if textsOk texts then (match needF (saysAll b texts) b.Pieces.length with | some l => (l, 0) | none => ([], 4)) else ([], 51)) else ([], 50)
def FewestVR (b : Book) (text : List Int) : List Int × Int :=
  if okB b then (if wordsOk text 8 then (match sayF b (fun _ => true) text 0 with | some l => (l, 0) | none => ([], 4)) else ([], 51)) else ([], 50)
theorem Says.mono {b : Book} {s s' : Nat → Bool} (h : ∀ i, s i = true → s' i = true) {text : List Int} : ∀ {l : List Int} {p : Nat}, Says b s text p l → Says b s' text p l
  | [], _, hs => hs
  | k :: l, p, ⟨h0, h1, h2, h3, h4⟩ => ⟨h0, h1, h _ h2, h3, Says.mono h h4⟩
end Go.RS.DC

/- The chapter voice, as plain functions (3): plans. -/
namespace Go.RS.DC
open Go Go.RS
open Go.RS.Enc (enc dec)
def timesOk (from_ pip : Int) : Bool := wi from_ 0 100000000 && wi pip from_ 100000000 && decide (pip - from_ ≤ 6100)
def askedV (b : Book) (text : List Int) (from_ pip : Int) : Int := if okB b then (if wordsOk text 8 then (if timesOk from_ pip then 0 else 52) else 51) else 50
/-! ### What a plan is -/
/-- A piece that begins at a time, behind what ended at a time (if any did). -/
def StepP (b : Book) (text : List Int) (p : Nat) (e : Option Int) (s : Start) : Prop :=
  0 ≤ s.Piece ∧ s.Piece < b.Pieces.length ∧ fitsB (pieceAt b s.Piece) text p = true ∧ 0 ≤ s.At ∧ s.At % discOf b (pieceAt b s.Piece) = (pieceAt b s.Piece).Begin ∧
    (match e with | none => True | some t => t + b.Pause.Low ≤ s.At ∧ s.At ≤ t + b.Pause.High)
/-- Pieces one behind the other, from a place and a time to a place and a time. -/
def Chain (b : Book) (text : List Int) : Nat → Option Int → List Start → Nat → Option Int → Prop
  | p, e, [], q, f => p = q ∧ e = f
  | p, e, s :: l, q, f => StepP b text p e s ∧ Chain b text (p + (pieceAt b s.Piece).Words.length) (some (s.At + (pieceAt b s.Piece).Long)) l q f
def RestP (b : Book) (text : List Int) (pip : Int) (q : Nat) (f : Option Int) : Prop := q = text.length ∧ b.Rest.Low ≤ pip - f.getD 0 ∧ pip - f.getD 0 ≤ b.Rest.High
/-- What goes on to the end. -/
def Cont (b : Book) (text : List Int) (pip : Int) (p : Nat) (e : Option Int) (l : List Start) : Prop := ∃ q f, Chain b text p e l q f ∧ RestP b text pip q f
def PlanP (b : Book) (text : List Int) (from_ pip : Int) (l : List Start) : Prop := Cont b text pip 0 none l ∧ ∀ s ∈ l, from_ ≤ s.At ∧ s.At ≤ pip
theorem cont_nil {b : Book} {text : List Int} {pip : Int} {p : Nat} {e : Option Int} : Cont b text pip p e [] ↔ RestP b text pip p e := by
  constructor
  · rintro ⟨q, f, ⟨rfl, rfl⟩, h⟩; exact h
  · intro h; exact ⟨p, e, ⟨rfl, rfl⟩, h⟩
theorem cont_cons {b : Book} {text : List Int} {pip : Int} {p : Nat} {e : Option Int} {s : Start} {l : List Start} : Cont b text pip p e (s :: l) ↔ StepP b text p e s ∧ Cont b text pip (p + (pieceAt b s.Piece).Words.length) (some (s.At + (pieceAt b s.Piece).Long)) l := by
  constructor
  · rintro ⟨q, f, ⟨h1, h2⟩, h3⟩; exact ⟨h1, q, f, h2, h3⟩
  · rintro ⟨h1, q, f, h2, h3⟩; exact ⟨q, f, ⟨h1, h2⟩, h3⟩
theorem step_piece {b : Book} (o : BookOk b) {text : List Int} {p : Nat} {e : Option Int} {s : Start} (h : StepP b text p e s) : PieceOk b (pieceAt b s.Piece) ∧ p + (pieceAt b s.Piece).Words.length ≤ text.length := by
  obtain ⟨h0, h1, h2, _⟩ := h
  refine ⟨?_, fits_le h2⟩
  unfold pieceAt
  exact piece_ok o (by omega)
theorem chain_end {b : Book} (o : BookOk b) {text : List Int} : ∀ {l : List Start} {p q : Nat} {e f : Option Int}, Chain b text p e l q f → p ≤ text.length → p + l.length ≤ q ∧ q ≤ text.length
  | [], p, q, e, f, ⟨h, _⟩, hp => by subst h; simp; exact hp
  | s :: l, p, q, e, f, ⟨h1, h2⟩, hp => by
    obtain ⟨g1, g2⟩ := step_piece o h1
    obtain ⟨k1, k2⟩ := chain_end o h2 g2
    have := g1.w1
    simp only [List.length_cons]
    omega
theorem cont_len {b : Book} (o : BookOk b) {text : List Int} {pip : Int} {p : Nat} {e : Option Int} {l : List Start} (h : Cont b text pip p e l) (hp : p ≤ text.length) : p + l.length ≤ text.length := by
  obtain ⟨q, f, h1, h2⟩ := h
  have := chain_end o h1 hp
  omega
/-- All that comes later begins no later than the pip. -/
theorem cont_pip {b : Book} (o : BookOk b) {text : List Int} {pip : Int} : ∀ {l : List Start} {p : Nat} {e : Option Int}, Cont b text pip p e l → (∀ s ∈ l, s.At ≤ pip) ∧ (∀ t, e = some t → t ≤ pip) ∧ (∀ t, e = some t → ∀ s ∈ l, t ≤ s.At)
  | [], p, e, h => by
    have := cont_nil.1 h
    have r0 := o.r0
    refine ⟨by simp, fun t ht => ?_, by simp⟩
    subst ht
    obtain ⟨_, h1, _⟩ := this
    simp at h1; omega
  | s :: l, p, e, h => by
    obtain ⟨h1, h2⟩ := cont_cons.1 h
    obtain ⟨g1, g2, g3⟩ := cont_pip o h2
    have hp := (step_piece o h1).1
    have l1 := hp.l1
    have a0 := o.a0
    have hs := g2 _ rfl
    have ht := g3 _ rfl
    refine ⟨fun x hx => ?_, fun t he => ?_, fun t he x hx => ?_⟩
    · rcases List.mem_cons.1 hx with rfl | hx
      · omega
      · exact g1 x hx
    · subst he
      obtain ⟨_, _, _, _, _, k1, _⟩ := h1
      omega
    · subst he
      obtain ⟨_, _, _, _, _, k1, _⟩ := h1
      rcases List.mem_cons.1 hx with rfl | hx
      · omega
      · have := ht x hx; omega
/-- A plan, looked at from its first piece. -/
theorem plan_cons {b : Book} (o : BookOk b) {text : List Int} {from_ pip : Int} {s : Start} {l : List Start} : PlanP b text from_ pip (s :: l) ↔ from_ ≤ s.At ∧ s.At ≤ pip ∧ StepP b text 0 none s ∧ Cont b text pip ((pieceAt b s.Piece).Words.length) (some (s.At + (pieceAt b s.Piece).Long)) l := by
  constructor
  · rintro ⟨h1, h2⟩
    obtain ⟨g1, g2⟩ := cont_cons.1 h1
    have := h2 s (by simp)
    exact ⟨this.1, this.2, g1, by simpa using g2⟩
  · rintro ⟨h1, h2, h3, h4⟩
    have hc : Cont b text pip 0 none (s :: l) := cont_cons.2 ⟨h3, by simpa using h4⟩
    obtain ⟨g1, _, g3⟩ := cont_pip o h4
    have l1 := (step_piece o h3).1.l1
    refine ⟨hc, fun x hx => ?_⟩
    rcases List.mem_cons.1 hx with rfl | hx
    · exact ⟨h1, h2⟩
    · have := g3 _ rfl x hx
      exact ⟨by omega, g1 x hx⟩
theorem plan_ne {b : Book} {text : List Int} (ht : 1 ≤ text.length) {from_ pip : Int} : ¬ PlanP b text from_ pip [] := fun h => by
  have := cont_nil.1 h.1
  have := this.1
  omega
/-! ### Whether something is a plan -/
def pauseB (b : Book) (e : Option Int) (t : Int) : Bool := match e with | none => true | some u => wi (t - u) b.Pause.Low b.Pause.High
def planB (b : Book) (text : List Int) (from_ pip : Int) : Nat → Option Int → List Start → Bool
  | p, e, [] => decide (p = text.length) && wi (pip - e.getD 0) b.Rest.Low b.Rest.High
  | p, e, s :: l => wi s.Piece 0 (b.Pieces.length - 1) && wi s.At from_ pip && pauseB b e s.At && decide (s.At % discOf b (pieceAt b s.Piece) = (pieceAt b s.Piece).Begin) &&
      fitsB (pieceAt b s.Piece) text p && planB b text from_ pip (p + (pieceAt b s.Piece).Words.length) (some (s.At + (pieceAt b s.Piece).Long)) l
theorem planB_iff {b : Book} {text : List Int} {from_ pip : Int} (h0 : 0 ≤ from_) : ∀ (l : List Start) (p : Nat) (e : Option Int), planB b text from_ pip p e l = true ↔ Cont b text pip p e l ∧ ∀ s ∈ l, from_ ≤ s.At ∧ s.At ≤ pip
  | [], p, e => by
    rw [cont_nil, planB, Bool.and_eq_true, decide_eq_true_eq, wi_iff]
    unfold RestP
    simp
  | s :: l, p, e => by
    rw [cont_cons, planB]
    simp only [Bool.and_eq_true, decide_eq_true_eq, wi_iff, planB_iff h0 l]
    unfold StepP pauseB
    constructor
    · rintro ⟨⟨⟨⟨⟨⟨h1, h2⟩, h3, h4⟩, h5⟩, h6⟩, h7⟩, h8, h9⟩
      refine ⟨⟨⟨h1, by omega, h7, by omega, h6, ?_⟩, h8⟩, fun x hx => ?_⟩
      · cases e with
        | none => trivial
        | some t => simp only [wi_iff] at h5; exact ⟨by omega, by omega⟩
      · rcases List.mem_cons.1 hx with rfl | hx
        · exact ⟨h3, h4⟩
        · exact h9 x hx
    · rintro ⟨⟨⟨h1, h2, h3, h4, h5, h6⟩, h7⟩, h8⟩
      have hs := h8 s (by simp)
      refine ⟨⟨⟨⟨⟨⟨h1, by omega⟩, hs⟩, ?_⟩, h5⟩, h3⟩, h7, fun x hx => h8 x (by simp [hx])⟩
      cases e with
      | none => rfl
      | some t => simp only [wi_iff]; simp only at h6; exact ⟨by omega, by omega⟩
def IsPlanR (b : Book) (text : List Int) (from_ pip : Int) (plan : List Start) : Bool × Int := if askedV b text from_ pip = 0 then (planB b text from_ pip 0 none plan, 0) else (false, askedV b text from_ pip)
/-! ### The best way to go on -/
def upL (turn last : Int) : Nat → Int → List Int
  | 0, _ => []
  | f + 1, t => if t ≤ last then t :: upL turn last f (t + turn) else []
def firstT (turn begin_ first : Int) : Int := first + (begin_ - first % turn + turn) % turn
/-- All times at which a piece can begin. -/
def startsL (b : Book) (x : Piece) (first last : Int) : List Int := upL (discOf b x) last (last - max 0 first + 1).toNat (firstT (discOf b x) x.Begin (max 0 first))
theorem mem_upL {turn last : Int} (ht : 1 ≤ turn) : ∀ (f : Nat) (t k : Int), last - t < f → (k ∈ upL turn last f t ↔ t ≤ k ∧ k ≤ last ∧ (k - t) % turn = 0)
  | 0, t, k, h => by
    simp only [upL, List.not_mem_nil, false_iff]
    rintro ⟨h1, h2, _⟩; omega
  | f + 1, t, k, h => by
    rw [upL]
    by_cases hl : t ≤ last
    · rw [if_pos hl, List.mem_cons, mem_upL ht f (t + turn) k (by omega)]
      constructor
      · rintro (rfl | ⟨h1, h2, h3⟩)
        · exact ⟨by omega, hl, by simp⟩
        · refine ⟨by omega, h2, ?_⟩
          rw [show k - t = (k - (t + turn)) + turn by omega]; simpa using h3
      · rintro ⟨h1, h2, h3⟩
        by_cases he : k = t
        · exact .inl he
        · right
          have hd : turn ∣ k - t := Int.dvd_of_emod_eq_zero h3
          have : turn ≤ k - t := Int.le_of_dvd (by omega) hd
          refine ⟨by omega, h2, ?_⟩
          rw [show k - (t + turn) = (k - t) - turn by omega]; simpa using h3
    · rw [if_neg hl]
      simp only [List.not_mem_nil, false_iff]
      rintro ⟨h1, h2, _⟩; omega
theorem firstT_spec {turn begin_ first : Int} (ht : 1 ≤ turn) (b0 : 0 ≤ begin_) (b1 : begin_ < turn) : first ≤ firstT turn begin_ first ∧ firstT turn begin_ first < first + turn ∧ firstT turn begin_ first % turn = begin_ := by
  have h1 := Int.emod_nonneg (begin_ - first % turn + turn) (show turn ≠ 0 by omega)
  have h2 := Int.emod_lt_of_pos (begin_ - first % turn + turn) (show 0 < turn by omega)
  unfold firstT
  refine ⟨by omega, by omega, ?_⟩
  have e : (first + (begin_ - first % turn + turn) % turn) % turn = begin_ % turn := by
    have e1 : (first + (begin_ - first % turn + turn) % turn) % turn = (first + (begin_ - first % turn + turn)) % turn := by rw [Int.add_emod_emod]
    have e2 := Int.mul_ediv_add_emod first turn
    rw [e1, show first + (begin_ - first % turn + turn) = begin_ + turn * (first / turn + 1) by rw [Int.mul_add]; omega]
    simp
  rw [e]; exact Int.emod_eq_of_lt b0 b1
theorem mem_startsL {b : Book} {x : Piece} (hx : PieceOk b x) (first last k : Int) : k ∈ startsL b x first last ↔ max 0 first ≤ k ∧ k ≤ last ∧ k % discOf b x = x.Begin := by
  obtain ⟨f1, f2, f3⟩ := firstT_spec (first := max 0 first) hx.t1 hx.b0 hx.b1
  have t1 := hx.t1
  unfold startsL
  generalize firstT (discOf b x) x.Begin (max 0 first) = t0 at *
  generalize max 0 first = m at *
  generalize discOf b x = turn at *
  rw [mem_upL t1 _ _ _ (by omega)]
  constructor
  · rintro ⟨h1, h2, h3⟩
    refine ⟨by omega, h2, ?_⟩
    have hd : turn ∣ k - t0 := Int.dvd_of_emod_eq_zero h3
    have : k % turn = t0 % turn := Int.emod_eq_emod_iff_emod_sub_eq_zero.2 h3
    rw [this]; exact f3
  · rintro ⟨h1, h2, h3⟩
    have hz : (k - t0) % turn = 0 := Int.emod_eq_emod_iff_emod_sub_eq_zero.1 (h3.trans f3.symm)
    refine ⟨?_, h2, hz⟩
    by_cases hlt : t0 ≤ k
    · exact hlt
    · exfalso
      have hd : turn ∣ t0 - k := by
        have : turn ∣ k - t0 := Int.dvd_of_emod_eq_zero hz
        have := Int.dvd_neg.2 this
        rwa [show -(k - t0) = t0 - k by omega] at this
      have := Int.le_of_dvd (by omega) hd
      omega
end Go.RS.DC

/- The chapter voice, as plain functions (4): the best way to go on, and the plan that is told. -/
namespace Go.RS.DC
open Go Go.RS
open Go.RS.Enc (enc dec)
def never : Int := 9
def baseW (b : Book) (text : List Int) (pip : Int) (p : Nat) (t : Int) : Found := if (decide (p = text.length) && wi (pip - t) b.Rest.Low b.Rest.High) = true then ⟨0, 0, 0⟩ else ⟨never, 0, 0⟩
def updW (w : Found) (k : Nat) (t : Int) (best : Found) : Found := if w.pieces + 1 < best.pieces then ⟨w.pieces + 1, k, t⟩ else best
/-- All times of a piece. -/
def foldT (W : Int → Found) (k : Nat) : List Int → Found → Found
  | [], best => best
  | t :: l, best => foldT W k l (updW (W t) k t best)
/-- The first pieces, one after the other. -/
def foldK (b : Book) (text : List Int) (p : Nat) (W : Nat → Int → Found) (S : Nat → List Int) : Nat → Found → Found
  | 0, best => best
  | n + 1, best => if fitsB (b.Pieces.getD n ⟨[], 0, 0, 0⟩) text p then foldT (W n) n (S n) (foldK b text p W S n best) else foldK b text p W S n best
def pieceN (b : Book) (n : Nat) : Piece := b.Pieces.getD n ⟨[], 0, 0, 0⟩
def waysF (b : Book) (text : List Int) (pip : Int) : Nat → Nat → Int → Found
  | 0, p, t => baseW b text pip p t
  | f + 1, p, t => foldK b text p (fun n s => waysF b text pip f (p + (pieceN b n).Words.length) (s + (pieceN b n).Long)) (fun n => startsL b (pieceN b n) (t + b.Pause.Low) (min (t + b.Pause.High) pip)) b.Pieces.length (baseW b text pip p t)
def waysR (b : Book) (text : List Int) (pip : Int) (p : Nat) (t : Int) : Found := waysF b text pip (text.length - p) p t
theorem foldT_spec {W : Int → Found} {k : Nat} : ∀ (l : List Int) (best : Found),
    (foldT W k l best = best ∨ ∃ t, t ∈ l ∧ foldT W k l best = ⟨(W t).pieces + 1, k, t⟩) ∧ (foldT W k l best).pieces ≤ best.pieces ∧ ∀ t ∈ l, (foldT W k l best).pieces ≤ (W t).pieces + 1
  | [], best => ⟨.inl rfl, Int.le_refl _, by simp⟩
  | t :: l, best => by
    obtain ⟨h1, h2, h3⟩ := foldT_spec (W := W) (k := k) l (updW (W t) k t best)
    have hu : (updW (W t) k t best).pieces ≤ best.pieces ∧ (updW (W t) k t best).pieces ≤ (W t).pieces + 1 := by
      unfold updW; split <;> simp <;> omega
    rw [foldT]
    refine ⟨?_, by omega, fun s hs => ?_⟩
    · rcases h1 with h1 | ⟨s, hs, h1⟩
      · rw [h1]
        unfold updW
        split
        · exact .inr ⟨t, by simp, rfl⟩
        · exact .inl rfl
      · exact .inr ⟨s, by simp [hs], h1⟩
    · rcases List.mem_cons.1 hs with rfl | hs
      · omega
      · exact h3 s hs
theorem foldK_spec {b : Book} {text : List Int} {p : Nat} {W : Nat → Int → Found} {S : Nat → List Int} : ∀ (n : Nat) (best : Found),
    (foldK b text p W S n best = best ∨ ∃ k t, k < n ∧ fitsB (pieceN b k) text p = true ∧ t ∈ S k ∧ foldK b text p W S n best = ⟨(W k t).pieces + 1, k, t⟩) ∧ (foldK b text p W S n best).pieces ≤ best.pieces ∧
      ∀ k t, k < n → fitsB (pieceN b k) text p = true → t ∈ S k → (foldK b text p W S n best).pieces ≤ (W k t).pieces + 1
  | 0, best => ⟨.inl rfl, Int.le_refl _, fun k t h => by omega⟩
  | n + 1, best => by
    obtain ⟨h1, h2, h3⟩ := foldK_spec (b := b) (text := text) (p := p) (W := W) (S := S) n best
    rw [foldK]
    by_cases hf : fitsB (b.Pieces.getD n ⟨[], 0, 0, 0⟩) text p = true
    · rw [if_pos hf]
      obtain ⟨g1, g2, g3⟩ := foldT_spec (W := W n) (k := n) (S n) (foldK b text p W S n best)
      refine ⟨?_, by omega, fun k t hk hfk ht => ?_⟩
      · rcases g1 with g1 | ⟨t, ht, g1⟩
        · rw [g1]
          rcases h1 with h1 | ⟨k, t, k1, k2, k3, k4⟩
          · exact .inl h1
          · exact .inr ⟨k, t, by omega, k2, k3, k4⟩
        · exact .inr ⟨n, t, by omega, hf, ht, g1⟩
      · by_cases hkn : k = n
        · subst hkn; exact g3 t ht
        · have := h3 k t (by omega) hfk ht; omega
    · rw [if_neg hf]
      refine ⟨?_, h2, fun k t hk hfk ht => ?_⟩
      · rcases h1 with h1 | ⟨k, t, k1, k2, k3, k4⟩
        · exact .inl h1
        · exact .inr ⟨k, t, by omega, k2, k3, k4⟩
      · by_cases hkn : k = n
        · subst hkn; exact absurd hfk hf
        · exact h3 k t (by omega) hfk ht
theorem foldK_congr {b : Book} {text : List Int} {p : Nat} {W W' : Nat → Int → Found} {S : Nat → List Int} : ∀ (n : Nat) (best : Found), (∀ k t, k < n → fitsB (pieceN b k) text p = true → W k t = W' k t) → foldK b text p W S n best = foldK b text p W' S n best
  | 0, _, _ => rfl
  | n + 1, best, h => by
    rw [foldK, foldK, foldK_congr n best fun k t hk hf => h k t (by omega) hf]
    split
    · rename_i hf
      have hW : W n = W' n := funext fun t => h n t (by omega) hf
      rw [hW]
    · rfl
theorem pieceN_ok {b : Book} (o : BookOk b) {n : Nat} (h : n < b.Pieces.length) : PieceOk b (pieceN b n) := piece_ok o h
theorem waysF_fuel {b : Book} (o : BookOk b) (text : List Int) (pip : Int) : ∀ (f g p : Nat) (t : Int), text.length - p ≤ f → text.length - p ≤ g → waysF b text pip f p t = waysF b text pip g p t
  | 0, 0, p, t, _, _ => rfl
  | 0, g + 1, p, t, h, _ => by
    rw [waysF, waysF]
    have : ∀ n best, foldK b text p (fun n s => waysF b text pip g (p + (pieceN b n).Words.length) (s + (pieceN b n).Long)) (fun n => startsL b (pieceN b n) (t + b.Pause.Low) (min (t + b.Pause.High) pip)) n best = best ∨ b.Pieces.length < n := by
      intro n
      induction n with
      | zero => intro best; exact .inl rfl
      | succ n ih =>
        intro best
        by_cases hn : b.Pieces.length < n + 1
        · exact .inr hn
        · rcases ih best with h1 | h1
          · left
            rw [foldK, if_neg]
            · exact h1
            · intro hf
              have := fits_le hf
              have w := (pieceN_ok o (n := n) (by omega)).w1
              unfold pieceN at w
              omega
          · omega
    rcases this b.Pieces.length (baseW b text pip p t) with h1 | h1
    · exact h1.symm
    · omega
  | f + 1, 0, p, t, h1, h2 => (waysF_fuel o text pip 0 (f + 1) p t h2 h1).symm
  | f + 1, g + 1, p, t, h1, h2 => by
    rw [waysF, waysF]
    refine foldK_congr _ _ fun k s hk hf => ?_
    have := fits_le hf
    have w := (pieceN_ok o hk).w1
    exact waysF_fuel o text pip f g _ _ (by omega) (by omega)
theorem waysR_step {b : Book} (o : BookOk b) (text : List Int) (pip : Int) (p : Nat) (t : Int) :
    waysR b text pip p t = foldK b text p (fun n s => waysR b text pip (p + (pieceN b n).Words.length) (s + (pieceN b n).Long)) (fun n => startsL b (pieceN b n) (t + b.Pause.Low) (min (t + b.Pause.High) pip)) b.Pieces.length (baseW b text pip p t) := by
  have h : waysR b text pip p t = waysF b text pip (text.length - p + 1) p t := waysF_fuel o text pip _ _ _ _ (Nat.le_refl _) (by omega)
  rw [h, waysF]
  refine foldK_congr _ _ fun k s hk hf => ?_
  have := fits_le hf
  have w := (pieceN_ok o hk).w1
  exact waysF_fuel o text pip _ _ _ _ (by omega) (Nat.le_refl _)
theorem pieceAt_N (b : Book) (n : Nat) : pieceAt b n = pieceN b n := pieceAt_nat b n
/-- How good the best way is. -/
structure WayOk (b : Book) (text : List Int) (pip : Int) (p : Nat) (t : Int) (w : Found) : Prop where
  nn : 0 ≤ w.pieces
  le9 : w.pieces ≤ 9
  zero : w.pieces = 0 → RestP b text pip p (some t)
  step : 0 < w.pieces → w.pieces < 9 → StepP b text p (some t) ⟨w.piece, w.at_⟩ ∧ w.at_ ≤ pip ∧ (waysR b text pip (p + (pieceAt b w.piece).Words.length) (w.at_ + (pieceAt b w.piece).Long)).pieces + 1 = w.pieces
  least : ∀ l, Cont b text pip p (some t) l → w.pieces ≤ l.length
theorem ways_ok {b : Book} (o : BookOk b) {text : List Int} (ht : text.length ≤ 8) (pip : Int) : ∀ (n p : Nat) (t : Int), text.length - p = n → p ≤ text.length → 0 ≤ t → WayOk b text pip p t (waysR b text pip p t) := by
  intro n
  induction n using Nat.strongRecOn with
  | _ n ih =>
    intro p t hn hp h0
    obtain ⟨h1, h2, h3⟩ := foldK_spec (b := b) (text := text) (p := p) (W := fun n s => waysR b text pip (p + (pieceN b n).Words.length) (s + (pieceN b n).Long)) (S := fun n => startsL b (pieceN b n) (t + b.Pause.Low) (min (t + b.Pause.High) pip)) b.Pieces.length (baseW b text pip p t)
    rw [← waysR_step o] at h1 h2 h3
    have a0 := o.a0
    have hb : baseW b text pip p t = ⟨0, 0, 0⟩ ∧ RestP b text pip p (some t) ∨ baseW b text pip p t = ⟨9, 0, 0⟩ ∧ ¬ RestP b text pip p (some t) := by
      unfold baseW RestP
      by_cases hc : (decide (p = text.length) && wi (pip - t) b.Rest.Low b.Rest.High) = true
      · rw [if_pos hc]
        simp only [Bool.and_eq_true, decide_eq_true_eq, wi_iff] at hc
        exact .inl ⟨rfl, hc.1, hc.2⟩
      · rw [if_neg hc]
        simp only [Bool.and_eq_true, decide_eq_true_eq, wi_iff] at hc
        exact .inr ⟨rfl, fun h => hc ⟨h.1, h.2⟩⟩
    have hsub : ∀ k s, k < b.Pieces.length → fitsB (pieceN b k) text p = true → s ∈ startsL b (pieceN b k) (t + b.Pause.Low) (min (t + b.Pause.High) pip) →
        StepP b text p (some t) ⟨k, s⟩ ∧ s ≤ pip ∧ WayOk b text pip (p + (pieceN b k).Words.length) (s + (pieceN b k).Long) (waysR b text pip (p + (pieceN b k).Words.length) (s + (pieceN b k).Long)) := fun k s hk hf hs => by
      have po := pieceN_ok o hk
      obtain ⟨m1, m2, m3⟩ := (mem_startsL po _ _ _).1 hs
      have w := po.w1
      have l1 := po.l1
      have hle := fits_le hf
      have hmin : min (t + b.Pause.High) pip ≤ t + b.Pause.High ∧ min (t + b.Pause.High) pip ≤ pip := ⟨Int.min_le_left _ _, Int.min_le_right _ _⟩
      have hmax : 0 ≤ max 0 (t + b.Pause.Low) ∧ t + b.Pause.Low ≤ max 0 (t + b.Pause.Low) := ⟨Int.le_max_left _ _, Int.le_max_right _ _⟩
      refine ⟨⟨by simp, by simpa using hk, ?_, by simp only; omega, ?_, by simp only; omega⟩, by omega, ih _ (by omega) _ _ rfl hle (by omega)⟩
      · simp only [pieceAt_N]; exact hf
      · simp only [pieceAt_N]; exact m3
    refine ⟨?_, ?_, fun hz => ?_, fun hp0 hp9 => ?_, fun l hl => ?_⟩
    · rcases h1 with h1 | ⟨k, s, k1, k2, k3, h1⟩
      · rw [h1]; rcases hb with ⟨e, _⟩ | ⟨e, _⟩ <;> rw [e] <;> simp
      · rw [h1]
        have := (hsub k s k1 k2 k3).2.2.nn
        simp only; omega
    · rcases hb with ⟨e, _⟩ | ⟨e, _⟩ <;> rw [e] at h2 <;> simp only at h2 <;> omega
    · rcases h1 with h1 | ⟨k, s, k1, k2, k3, h1⟩
      · rcases hb with ⟨_, hr⟩ | ⟨e, _⟩
        · exact hr
        · rw [h1, e] at hz; simp at hz
      · rw [h1] at hz
        have := (hsub k s k1 k2 k3).2.2.nn
        simp only at hz; omega
    · rcases h1 with h1 | ⟨k, s, k1, k2, k3, h1⟩
      · rcases hb with ⟨e, _⟩ | ⟨e, _⟩
        · rw [h1, e] at hp0; simp at hp0
        · rw [h1, e] at hp9; simp at hp9
      · rw [h1]
        obtain ⟨g1, g2, g3⟩ := hsub k s k1 k2 k3
        refine ⟨g1, g2, ?_⟩
        simp only [pieceAt_N]
    · cases l with
      | nil =>
        have hr := cont_nil.1 hl
        rcases hb with ⟨e, _⟩ | ⟨_, hn⟩
        · rw [e] at h2; simpa using h2
        · exact absurd hr hn
      | cons s l =>
        obtain ⟨g1, g2⟩ := cont_cons.1 hl
        obtain ⟨c1, c2, c3, c4, c5, c6, c7⟩ := g1
        obtain ⟨k, hk⟩ : ∃ k : Nat, s.Piece = k := ⟨s.Piece.toNat, by omega⟩
        rw [hk, pieceAt_N] at c3 c5 g2
        have hk1 : k < b.Pieces.length := by omega
        have po := pieceN_ok o hk1
        have hsp := (cont_pip o g2).2.1 _ rfl
        have l1 := po.l1
        have hs : s.At ∈ startsL b (pieceN b k) (t + b.Pause.Low) (min (t + b.Pause.High) pip) := by
          refine (mem_startsL po _ _ _).2 ⟨?_, ?_, c5⟩
          · rw [Int.max_def]; split <;> omega
          · rw [Int.min_def]; split <;> omega
        have := h3 k s.At hk1 c3 hs
        have hl2 := (hsub k s.At hk1 c3 hs).2.2.least l g2
        simp only [List.length_cons]
        omega
/-! ### The plan that is told -/
def lateT (W : Int → Found) : List Int → Int → Int
  | [], late => late
  | t :: l, late => lateT W l (if (W t).pieces = never then late else max late t)
def lateK (b : Book) (text : List Int) (W : Nat → Int → Found) (S : Nat → List Int) : Nat → Int
  | 0 => -1
  | n + 1 => if fitsB (b.Pieces.getD n ⟨[], 0, 0, 0⟩) text 0 then lateT (W n) (S n) (lateK b text W S n) else lateK b text W S n
def firstW (b : Book) (text : List Int) (pip : Int) (n : Nat) (s : Int) : Found := waysR b text pip (pieceN b n).Words.length (s + (pieceN b n).Long)
def bestR (b : Book) (text : List Int) (from_ pip : Int) : Found := foldK b text 0 (firstW b text pip) (fun n => startsL b (pieceN b n) from_ pip) b.Pieces.length ⟨never, 0, 0⟩
def lateR (b : Book) (text : List Int) (from_ pip : Int) : Int := lateK b text (firstW b text pip) (fun n => startsL b (pieceN b n) from_ pip) b.Pieces.length
/-- The pieces, one after the other. -/
def outF (b : Book) (text : List Int) (pip : Int) : Nat → Nat → Found → List Start
  | 0, _, _ => []
  | n + 1, p, x => ⟨x.piece, x.at_⟩ :: outF b text pip n (p + (pieceAt b x.piece).Words.length) (waysR b text pip (p + (pieceAt b x.piece).Words.length) (x.at_ + (pieceAt b x.piece).Long))
def planF (b : Book) (text : List Int) (from_ pip : Int) : Option (List Start × Int) :=
  if lateR b text from_ pip < 0 then none else some (outF b text pip (bestR b text from_ pip).pieces.toNat 0 (bestR b text from_ pip), lateR b text from_ pip)
theorem lateT_spec {W : Int → Found} : ∀ (l : List Int) (late : Int), late ≤ lateT W l late ∧ (lateT W l late = late ∨ ∃ t ∈ l, (W t).pieces ≠ never ∧ lateT W l late = t) ∧ ∀ t ∈ l, (W t).pieces ≠ never → t ≤ lateT W l late
  | [], late => ⟨Int.le_refl _, .inl rfl, by simp⟩
  | t :: l, late => by
    rw [lateT]
    obtain ⟨h1, h2, h3⟩ := lateT_spec (W := W) l (if (W t).pieces = never then late else max late t)
    by_cases hn : (W t).pieces = never
    · rw [if_pos hn] at h1 h2 h3 ⊢
      refine ⟨h1, ?_, fun s hs hw => ?_⟩
      · rcases h2 with h2 | ⟨s, g1, g2⟩
        · exact .inl h2
        · exact .inr ⟨s, by simp [g1], g2⟩
      · rcases List.mem_cons.1 hs with rfl | hs
        · exact absurd hn hw
        · exact h3 s hs hw
    · rw [if_neg hn] at h1 h2 h3 ⊢
      have m1 := Int.le_max_left late t
      have m2 := Int.le_max_right late t
      refine ⟨by omega, ?_, fun s hs hw => ?_⟩
      · rcases h2 with h2 | ⟨s, g1, g2⟩
        · rw [h2, Int.max_def]
          split
          · exact .inr ⟨t, by simp, hn, rfl⟩
          · exact .inl rfl
        · exact .inr ⟨s, by simp [g1], g2⟩
      · rcases List.mem_cons.1 hs with rfl | hs
        · omega
        · exact h3 s hs hw
theorem lateK_spec {b : Book} {text : List Int} {W : Nat → Int → Found} {S : Nat → List Int} : ∀ n : Nat, (lateK b text W S n = -1 ∨ ∃ k t, k < n ∧ fitsB (pieceN b k) text 0 = true ∧ t ∈ S k ∧ (W k t).pieces ≠ never ∧ lateK b text W S n = t) ∧
    ∀ k t, k < n → fitsB (pieceN b k) text 0 = true → t ∈ S k → (W k t).pieces ≠ never → t ≤ lateK b text W S n
  | 0 => ⟨.inl rfl, fun k t h => by omega⟩
  | n + 1 => by
    obtain ⟨h1, h2⟩ := lateK_spec (b := b) (text := text) (W := W) (S := S) n
    rw [lateK]
    by_cases hf : fitsB (b.Pieces.getD n ⟨[], 0, 0, 0⟩) text 0 = true
    · rw [if_pos hf]
      obtain ⟨g1, g2, g3⟩ := lateT_spec (W := W n) (S n) (lateK b text W S n)
      refine ⟨?_, fun k t hk hfk ht hw => ?_⟩
      · rcases g2 with g2 | ⟨t, e1, e2, e3⟩
        · rw [g2]
          rcases h1 with h1 | ⟨k, t, k1, k2⟩
          · exact .inl h1
          · exact .inr ⟨k, t, by omega, k2⟩
        · exact .inr ⟨n, t, by omega, hf, e1, e2, e3⟩
      · by_cases hkn : k = n
        · subst hkn; exact g3 t ht hw
        · have := h2 k t (by omega) hfk ht hw; omega
    · rw [if_neg hf]
      refine ⟨?_, fun k t hk hfk ht hw => ?_⟩
      · rcases h1 with h1 | ⟨k, t, k1, k2⟩
        · exact .inl h1
        · exact .inr ⟨k, t, by omega, k2⟩
      · by_cases hkn : k = n
        · subst hkn; exact absurd hfk hf
        · exact h2 k t (by omega) hfk ht hw
/-- From a way there is one to the end. -/
theorem outF_cont {b : Book} (o : BookOk b) {text : List Int} (ht : text.length ≤ 8) (pip : Int) : ∀ (n p : Nat) (t : Int), p ≤ text.length → 0 ≤ t → (waysR b text pip p t).pieces = n → n < 9 →
    Cont b text pip p (some t) (outF b text pip n p (waysR b text pip p t)) ∧ (outF b text pip n p (waysR b text pip p t)).length = n
  | 0, p, t, hp, h0, hn, _ => by
    have w := ways_ok o ht pip _ p t rfl hp h0
    exact ⟨cont_nil.2 (w.zero (by omega)), rfl⟩
  | n + 1, p, t, hp, h0, hn, h9 => by
    have w := ways_ok o ht pip _ p t rfl hp h0
    obtain ⟨s1, s2, s3⟩ := w.step (by omega) (by omega)
    obtain ⟨q1, q2⟩ := step_piece o s1
    have l1 := q1.l1
    obtain ⟨_, _, _, c4, _⟩ := s1
    simp only at q2 l1 c4
    have ih := outF_cont o ht pip n (p + (pieceAt b (waysR b text pip p t).piece).Words.length) ((waysR b text pip p t).at_ + (pieceAt b (waysR b text pip p t).piece).Long) q2 (by omega) (by omega) (by omega)
    rw [outF]
    exact ⟨cont_cons.2 ⟨(w.step (by omega) (by omega)).1, ih.1⟩, by rw [List.length_cons, ih.2]⟩
/-- What is told: a plan with as few pieces as any, and the latest time at which one begins; none, if there is none. -/
structure PlanOk (b : Book) (text : List Int) (from_ pip : Int) : Prop where
  some_ : ∀ l late, planF b text from_ pip = some (l, late) → PlanP b text from_ pip l ∧ (∀ m, PlanP b text from_ pip m → l.length ≤ m.length) ∧ (∃ s m, PlanP b text from_ pip (s :: m) ∧ s.At = late) ∧ ∀ s m, PlanP b text from_ pip (s :: m) → s.At ≤ late
  none_ : planF b text from_ pip = none → ∀ m, ¬ PlanP b text from_ pip m
theorem plan_ok {b : Book} (o : BookOk b) {text : List Int} (ht1 : 1 ≤ text.length) (ht : text.length ≤ 8) {from_ pip : Int} (h0 : 0 ≤ from_) : PlanOk b text from_ pip := by
  have hfirst : ∀ (k : Nat) (s : Int), k < b.Pieces.length → fitsB (pieceN b k) text 0 = true → s ∈ startsL b (pieceN b k) from_ pip →
      from_ ≤ s ∧ s ≤ pip ∧ StepP b text 0 none ⟨k, s⟩ ∧ WayOk b text pip (pieceN b k).Words.length (s + (pieceN b k).Long) (firstW b text pip k s) ∧ (pieceN b k).Words.length ≤ text.length ∧ 0 ≤ s + (pieceN b k).Long := fun k s hk hf hs => by
    have po := pieceN_ok o hk
    obtain ⟨m1, m2, m3⟩ := (mem_startsL po _ _ _).1 hs
    have hmax : 0 ≤ max 0 from_ ∧ from_ ≤ max 0 from_ := ⟨Int.le_max_left _ _, Int.le_max_right _ _⟩
    have hle := fits_le hf
    have l1 := po.l1
    refine ⟨by omega, m2, ⟨by simp, by simpa using hk, by simp only [pieceAt_N]; exact hf, by simp only; omega, by simp only [pieceAt_N]; exact m3, trivial⟩, ways_ok o ht pip _ _ _ rfl (by omega) (by omega), by omega, by omega⟩
  have hin : ∀ s m, PlanP b text from_ pip (s :: m) → ∃ k : Nat, s.Piece = k ∧ k < b.Pieces.length ∧ fitsB (pieceN b k) text 0 = true ∧ s.At ∈ startsL b (pieceN b k) from_ pip ∧ (firstW b text pip k s.At).pieces ≤ m.length ∧ m.length < 8 := fun s m hm => by
    obtain ⟨h1, h2, h3, h4⟩ := (plan_cons o).1 hm
    obtain ⟨c1, c2, c3, c4, c5, _⟩ := h3
    obtain ⟨k, hk⟩ : ∃ k : Nat, s.Piece = k := ⟨s.Piece.toNat, by omega⟩
    rw [hk, pieceAt_N] at c3 c5 h4
    have hk1 : k < b.Pieces.length := by omega
    have po := pieceN_ok o hk1
    have hs : s.At ∈ startsL b (pieceN b k) from_ pip := (mem_startsL po _ _ _).2 ⟨by rw [Int.max_def]; split <;> omega, h2, c5⟩
    obtain ⟨_, _, _, w, g1, g2⟩ := hfirst k s.At hk1 c3 hs
    have hl := cont_len o h4 (by omega)
    have w1 := po.w1
    exact ⟨k, hk, hk1, c3, hs, w.least m h4, by omega⟩
  obtain ⟨K1, K2⟩ := lateK_spec (b := b) (text := text) (W := firstW b text pip) (S := fun n => startsL b (pieceN b n) from_ pip) b.Pieces.length
  obtain ⟨F1, F2, F3⟩ := foldK_spec (b := b) (text := text) (p := 0) (W := firstW b text pip) (S := fun n => startsL b (pieceN b n) from_ pip) b.Pieces.length ⟨never, 0, 0⟩
  constructor
  · intro l late hp
    unfold planF at hp
    split at hp
    · cases hp
    · rename_i hl
      cases hp
      -- one that begins late
      rcases K1 with K1 | ⟨k, t, k1, k2, k3, k4, k5⟩
      · exact absurd (show lateR b text from_ pip < 0 by unfold lateR; rw [K1]; decide) hl
      obtain ⟨f1, f2, f3, f4, f5, f6⟩ := hfirst k t k1 k2 k3
      have hlt : (firstW b text pip k t).pieces < 9 := by have := f4.le9; have : (firstW b text pip k t).pieces ≠ 9 := k4; omega
      obtain ⟨n, hn⟩ : ∃ n : Nat, (firstW b text pip k t).pieces = n := ⟨(firstW b text pip k t).pieces.toNat, by have := f4.nn; omega⟩
      obtain ⟨o1, o2⟩ := outF_cont o ht pip n _ _ f5 f6 hn (by omega)
      have hlate : PlanP b text from_ pip (⟨k, t⟩ :: outF b text pip n (pieceN b k).Words.length (firstW b text pip k t)) := by
        refine (plan_cons o).2 ⟨f1, f2, f3, ?_⟩
        simp only [pieceAt_N]; exact o1
      -- the best one
      have hb9 : (bestR b text from_ pip).pieces < 9 ∨ (bestR b text from_ pip).pieces = 9 := by
        have : (bestR b text from_ pip).pieces ≤ 9 := F2
        omega
      have hbk := F3 k t k1 k2 k3
      change (bestR b text from_ pip).pieces ≤ (firstW b text pip k t).pieces + 1 at hbk
      have hol := cont_len o o1 f5
      have hw1 := (pieceN_ok o k1).w1
      rw [o2] at hol
      rcases F1 with F1 | ⟨k', t', e1, e2, e3, e4⟩
      · exfalso
        have hbr : bestR b text from_ pip = ⟨never, 0, 0⟩ := F1
        rw [hbr] at hbk
        simp only [never] at hbk
        omega
      · have hbr : bestR b text from_ pip = ⟨(firstW b text pip k' t').pieces + 1, k', t'⟩ := e4
        obtain ⟨d1, d2, d3, d4, d5, d6⟩ := hfirst k' t' e1 e2 e3
        obtain ⟨n', hn'⟩ : ∃ n : Nat, (firstW b text pip k' t').pieces = n := ⟨(firstW b text pip k' t').pieces.toNat, by have := d4.nn; omega⟩
        have hlt' : n' < 9 := by rw [hbr] at hbk; simp only at hbk; omega
        obtain ⟨p1, p2⟩ := outF_cont o ht pip n' _ _ d5 d6 hn' hlt'
        have hout : outF b text pip (bestR b text from_ pip).pieces.toNat 0 (bestR b text from_ pip) = ⟨k', t'⟩ :: outF b text pip n' (pieceN b k').Words.length (firstW b text pip k' t') := by
          rw [hbr]
          simp only [hn']
          rw [show ((n' : Int) + 1).toNat = n' + 1 by omega, outF]
          simp only [pieceAt_N, Nat.zero_add]
          rfl
        rw [hout]
        refine ⟨(plan_cons o).2 ⟨d1, d2, d3, by simp only [pieceAt_N]; exact p1⟩, fun m hm => ?_, ⟨_, _, hlate, k5.symm⟩, fun s m hm => ?_⟩
        · cases m with
          | nil => exact absurd hm (plan_ne ht1)
          | cons s m =>
            obtain ⟨j, g0, g1, g2, g3, g4, g5⟩ := hin s m hm
            have := F3 j s.At g1 g2 g3
            change (bestR b text from_ pip).pieces ≤ (firstW b text pip j s.At).pieces + 1 at this
            rw [hbr] at this
            simp only [hn'] at this
            have p2' : (outF b text pip n' (pieceN b k').Words.length (firstW b text pip k' t')).length = n' := p2
            rw [List.length_cons, List.length_cons, p2']
            omega
        · obtain ⟨j, g0, g1, g2, g3, g4, g5⟩ := hin s m hm
          exact K2 j s.At g1 g2 g3 (by unfold never; omega)
  · intro hp m hm
    unfold planF at hp
    split at hp
    · rename_i hl
      cases m with
      | nil => exact plan_ne ht1 hm
      | cons s m =>
        obtain ⟨j, g0, g1, g2, g3, g4, g5⟩ := hin s m hm
        have := K2 j s.At g1 g2 g3 (by unfold never; omega)
        have h2 := (mem_startsL (pieceN_ok o g1) _ _ _).1 g3
        have hmax : 0 ≤ max 0 from_ := Int.le_max_left _ _
        change s.At ≤ lateR b text from_ pip at this
        omega
    · cases hp
end Go.RS.DC

/- The chapter voice, as plain functions (5): how few pieces, and how late: the best of all ends. -/
namespace Go.RS.DC
open Go Go.RS
open Go.RS.Enc (enc dec)
/-- The fewest and the latest of several ends. -/
def IsBest (S : Int → Int → Prop) (e : End) : Prop := ((∀ n a, ¬ S n a) ∧ e = ⟨0, 0⟩) ∨ (1 ≤ e.pieces ∧ (∃ a, S e.pieces a) ∧ (∀ n a, S n a → e.pieces ≤ n) ∧ (∃ n, S n e.first) ∧ ∀ n a, S n a → a ≤ e.first)
open Classical in
noncomputable def bestE (S : Int → Int → Prop) : End := if h : ∃ e, IsBest S e then Classical.choose h else ⟨0, 0⟩
/-! ### What can end somewhere -/
def PlanPR (b : Book) (text : List Int) (from_ pip : Int) : List Start × Int := if askedV b text from_ pip = 0 then (match planF b text from_ pip with | some r => (r.1, 0) | none => ([], 4)) else ([], askedV b text from_ pip)
def LatestPR (b : Book) (text : List Int) (from_ pip : Int) : Int × Int := if askedV b text from_ pip = 0 then (match planF b text from_ pip with | some r => (r.2, 0) | none => (0, 4)) else (0, askedV b text from_ pip)
structure AskOk (b : Book) (text : List Int) (from_ pip : Int) : Prop where
  o : BookOk b
  t1 : 1 ≤ text.length
  t8 : text.length ≤ 8
  tr : ∀ n ∈ text, 0 ≤ n ∧ n ≤ 299
  f0 : 0 ≤ from_
  fp : from_ ≤ pip
  p1 : pip ≤ 100000000
  w : pip - from_ ≤ 6100
theorem asked_ok {b : Book} {text : List Int} {from_ pip : Int} (h : askedV b text from_ pip = 0) : AskOk b text from_ pip := by
  unfold askedV at h
  split at h
  · rename_i h1
    split at h
    · rename_i h2
      split at h
      · rename_i h3
        simp only [wordsOk, Bool.and_eq_true, wi_iff, List.all_eq_true] at h2
        simp only [timesOk, Bool.and_eq_true, wi_iff, decide_eq_true_eq] at h3
        exact ⟨okB_ok h1, by omega, by omega, h2.2, h3.1.1.1, h3.1.2.1, h3.1.2.2, h3.2⟩
      · cases h
    · cases h
  · cases h
end Go.RS.DC

/- The chapter voice, as plain functions (6): what the reference tells of the pieces that are needed, and of a day. -/
namespace Go.RS.DC
open Go Go.RS
open Go.RS.Enc (enc dec)
theorem fewF_congr {b : Book} {s s' : Nat → Bool} (h : ∀ i, i < b.Pieces.length → s i = s' i) (text : List Int) : ∀ f p : Nat, fewF b s text f p = fewF b s' text f p
  | 0, p => rfl
  | f + 1, p => by
    rw [fewF, fewF]
    split
    · rfl
    · refine bestF_congr _ fun i hi => ?_
      rw [h i hi, fewF_congr h text f]
theorem sayF_congr {b : Book} {s s' : Nat → Bool} (h : ∀ i, i < b.Pieces.length → s i = s' i) (text : List Int) (p : Nat) : sayF b s text p = sayF b s' text p := fewF_congr h text _ p
/-- No pieces say nothing. -/
theorem say_none {b : Book} (o : BookOk b) {s : Nat → Bool} (h : ∀ i, i < b.Pieces.length → s i = false) {text : List Int} (ht : 1 ≤ text.length) : sayF b s text 0 = none := by
  rw [sayF_step o s text (by omega), bestF_none]
  intro i hi
  rw [h i hi]; rfl
/-! ### The announcements of a calendar -/
def textD (c : Cal) (next : Int) : List Int := (WordsR (ReadingR c next).1).1
def dayV (num : Int → Int → Int) (c : Cal) (each : Int) : Nat → Int → List Int
  | 0, _ => []
  | m + 1, tick => if (NextR c (tick + 1) each).2 = 0 then num tick (NextR c (tick + 1) each).1 :: dayV num c each m (NextR c (tick + 1) each).1 else []
def numP (b : Book) (c : Cal) (tick next : Int) : Int := if (PlanPR b (textD c next) (100 * tick) (100 * next)).2 = 0 then ((PlanPR b (textD c next) (100 * tick) (100 * next)).1.length : Int) else -1
def dayOk (b : Book) (c : Cal) (tick each many : Int) : Int := if okB b then (if (decide ((ReadingR c tick).2 = 0) && wi each 1 60 && wi many 1 20) = true then 0 else 52) else 50
def DayP (b : Book) (c : Cal) (tick each many : Int) : List Int × Int := if dayOk b c tick each many = 0 then (dayV (numP b c) c each many.toNat tick, 0) else ([], dayOk b c tick each many)
end Go.RS.DC

/- The chapter voice, as plain functions (7): the laws of the fewest pieces and of those that are needed. -/
namespace Go.RS.DC
open Go Go.RS
open Go.RS.Enc (enc dec)
/-- What pieces say. -/
def wordsL (b : Book) : List Int → List Int
  | [] => []
  | k :: l => (pieceAt b k).Words ++ wordsL b l
theorem wordsL_append (b : Book) : ∀ l m : List Int, wordsL b (l ++ m) = wordsL b l ++ wordsL b m
  | [], m => rfl
  | k :: l, m => by rw [List.cons_append, wordsL, wordsL, wordsL_append b l m, List.append_assoc]
def InR (b : Book) (sel : Nat → Bool) (l : List Int) : Prop := ∀ k ∈ l, 0 ≤ k ∧ k < b.Pieces.length ∧ sel k.toNat = true
def every (_ : Nat) : Bool := true
theorem fits_iff (x : Piece) (text : List Int) (p : Nat) (hp : p ≤ text.length) (r : List Int) : (fitsB x text p = true ∧ text.drop (p + x.Words.length) = r) ↔ text.drop p = x.Words ++ r := by
  unfold fitsB
  rw [Bool.and_eq_true, decide_eq_true_eq, decide_eq_true_eq]
  constructor
  · rintro ⟨⟨h1, h2⟩, h3⟩
    have := (List.take_append_drop x.Words.length (text.drop p)).symm
    rw [h2, List.drop_drop, h3] at this
    exact this
  · intro h
    have hl := congrArg List.length h
    simp only [List.length_drop, List.length_append] at hl
    refine ⟨⟨by omega, by rw [h, List.take_left]⟩, ?_⟩
    rw [← List.drop_drop, h, List.drop_left]
theorem says_iff (b : Book) (sel : Nat → Bool) (text : List Int) : ∀ (l : List Int) (p : Nat), Says b sel text p l ↔ p ≤ text.length ∧ InR b sel l ∧ text.drop p = wordsL b l
  | [], p => by
    show p = text.length ↔ _
    constructor
    · rintro rfl; exact ⟨Nat.le_refl _, by simp [InR], by simp [wordsL]⟩
    · rintro ⟨h1, _, h2⟩
      have := List.drop_eq_nil_iff.1 h2
      omega
  | k :: l, p => by
    show (0 ≤ k ∧ k < b.Pieces.length ∧ sel k.toNat = true ∧ fitsB (pieceAt b k) text p = true ∧ Says b sel text (p + (pieceAt b k).Words.length) l) ↔ _
    rw [says_iff b sel text l]
    unfold InR
    rw [List.forall_mem_cons, wordsL]
    constructor
    · rintro ⟨h1, h2, h3, h4, h5, h6, h7⟩
      have hp : p ≤ text.length := by omega
      exact ⟨hp, ⟨⟨h1, h2, h3⟩, h6⟩, (fits_iff _ _ _ hp _).1 ⟨h4, h7⟩⟩
    · rintro ⟨hp, ⟨⟨h1, h2, h3⟩, h6⟩, h7⟩
      obtain ⟨h4, h8⟩ := (fits_iff _ _ _ hp _).2 h7
      exact ⟨h1, h2, h3, h4, fits_le h4, h6, h8⟩
theorem words_range {b : Book} (o : BookOk b) : ∀ {l : List Int}, InR b every l → ∀ w ∈ wordsL b l, 0 ≤ w ∧ w ≤ 299
  | [], _ => by simp [wordsL]
  | k :: l, h => by
    unfold InR at h
    rw [List.forall_mem_cons] at h
    intro w hw
    rw [wordsL, List.mem_append] at hw
    rcases hw with hw | hw
    · refine (piece_ok o (i := k.toNat) (by omega)).wr w ?_
      exact hw
    · exact words_range o h.2 w hw
theorem words_len {b : Book} (o : BookOk b) : ∀ {l : List Int}, InR b every l → l.length ≤ (wordsL b l).length
  | [], _ => by simp
  | k :: l, h => by
    unfold InR at h
    rw [List.forall_mem_cons] at h
    have := words_len o h.2
    have := (piece_ok o (i := k.toNat) (by omega)).w1
    rw [wordsL, List.length_append, List.length_cons]
    unfold pieceAt
    omega
theorem wordsOk_of {t : List Int} (h1 : 1 ≤ t.length) (h8 : t.length ≤ 8) (hr : ∀ w ∈ t, 0 ≤ w ∧ w ≤ 299) : wordsOk t 8 = true := by
  unfold wordsOk
  rw [Bool.and_eq_true, wi_iff, List.all_eq_true]
  exact ⟨by omega, fun w hw => (wi_iff _ _ _).2 (hr w hw)⟩
/-! ### Texts that numbers choose -/
def someStep (b : Book) (s : List Int × List Int) (x : Int) : List Int × List Int :=
  if s.1.length + (pieceAt b (x % b.Pieces.length)).Words.length ≤ 8 then (s.1 ++ (pieceAt b (x % b.Pieces.length)).Words, s.2 ++ [x % b.Pieces.length]) else s
def someF (b : Book) (bits : List Int) : List Int × List Int := bits.foldl (someStep b) ([], [])
structure SomeOk (b : Book) (s : List Int × List Int) : Prop where
  t : s.1 = wordsL b s.2
  r : InR b every s.2
  l : s.1.length ≤ 8
theorem mod_piece {b : Book} (o : BookOk b) (x : Int) : 0 ≤ x % b.Pieces.length ∧ x % b.Pieces.length < b.Pieces.length := by
  have := o.p1
  exact ⟨Int.emod_nonneg _ (by omega), Int.emod_lt_of_pos _ (by omega)⟩
theorem someStep_ok {b : Book} (o : BookOk b) {s : List Int × List Int} (h : SomeOk b s) (x : Int) : SomeOk b (someStep b s x) := by
  unfold someStep
  have hk := mod_piece o x
  generalize x % (b.Pieces.length : Int) = k at *
  split
  · rename_i hl
    refine ⟨?_, ?_, ?_⟩
    · show s.1 ++ _ = wordsL b (s.2 ++ [k])
      rw [wordsL_append, h.t]; simp [wordsL]
    · intro j hj
      rcases List.mem_append.1 hj with hj | hj
      · exact h.r j hj
      · rw [List.mem_singleton] at hj; subst hj; exact ⟨hk.1, hk.2, rfl⟩
    · show (s.1 ++ (pieceAt b k).Words).length ≤ 8
      rw [List.length_append]; exact hl
  · exact h
theorem some_fold {b : Book} (o : BookOk b) : ∀ (bits : List Int) {s : List Int × List Int}, SomeOk b s → SomeOk b (bits.foldl (someStep b) s)
  | [], s, h => h
  | x :: bits, s, h => some_fold o bits (someStep_ok o h x)
theorem some_ok {b : Book} (o : BookOk b) (bits : List Int) : SomeOk b (someF b bits) := some_fold o bits ⟨rfl, by simp [InR], by simp⟩
/-! ### A book without its last piece -/
def cutB (b : Book) : Book := ⟨b.Discs, b.Pieces.dropLast, b.Pause, b.Rest⟩
/-! ### Texts that cannot be said -/
end Go.RS.DC

