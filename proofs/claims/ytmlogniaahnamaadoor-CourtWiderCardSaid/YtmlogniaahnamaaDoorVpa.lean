/- Kinds of data of the chapter voice. -/
import Derived.Test.YtmlogniaahnamaaDoorDpa
set_option linter.all false
namespace Go.RS.DC
open Go Go.RS
open Go.RS.Enc (enc dec)
structure Piece where
  Words : (List Int)
  Disc : Int
  Begin : Int
  Long : Int
  deriving DecidableEq
instance elPiece : El Piece where
  sz := 4
  cells x := [enc x.Words, enc x.Disc, enc x.Begin, enc x.Long]
  un cs := match cs with | [v0, v1, v2, v3] => (dec v0).bind fun a0 => (dec v1).bind fun a1 => (dec v2).bind fun a2 => (dec v3).bind fun a3 => some ⟨a0, a1, a2, a3⟩ | _ => none
  len _ := rfl
  un_le := by
    intro cs a h
    split at h
    · simp only [Option.bind_eq_some_iff, Option.some.injEq] at h
      obtain ⟨x0, h0, x1, h1, x2, h2, x3, h3, rfl⟩ := h
      exact ⟨Enc.dec_le h0, Enc.dec_le h1, Enc.dec_le h2, Enc.dec_le h3, trivial⟩
    · cases h
  un_cells x := by simp only [Enc.dec_enc, Option.bind_some]
  isF x := by simp only [PV.isFL, Bool.and_eq_true, and_true]; exact ⟨rfl, rfl, rfl, rfl⟩
instance encPiece : Enc Piece := encOfEl Piece
@[simp] theorem sz_Piece : El.sz Piece = 4 := rfl
@[simp] theorem cells_Piece (x : Piece) : El.cells x = [enc x.Words, enc x.Disc, enc x.Begin, enc x.Long] := rfl
@[simp] theorem enc_Piece (x : Piece) : enc x = PV.agg [enc x.Words, enc x.Disc, enc x.Begin, enc x.Long] := rfl
@[simp] theorem dec_Piece (v0 v1 v2 v3 : PV) : (dec (PV.agg [v0, v1, v2, v3]) : Option Piece) = (dec v0).bind fun a0 => (dec v1).bind fun a1 => (dec v2).bind fun a2 => (dec v3).bind fun a3 => some ⟨a0, a1, a2, a3⟩ := rfl
@[simp] theorem eta_Piece (x : Piece) : (Piece.mk x.Words x.Disc x.Begin x.Long) = x := rfl
@[simp] theorem decl_Piece (ex : Bool) (q : Nat) (l : List Piece) (h : q = l.length) : (dec (PV.lst ex q 4 (encL l)) : Option (List Piece)) = some l := by subst h; exact dec_lst ex l
@[simp] theorem decf_Piece (M : VM) (t : Nat) (out : List Piece) (h : M[t]? = some (.vec (encL out))) : (dec (fzSl M t (out.length * 4) 0 out.length (openCap + 4) 4) : Option (List Piece)) = some out := dec_fzSl M t out h (by decide)
@[simp] theorem lef_Piece (M : VM) (t : Nat) (out : List Piece) (h : M[t]? = some (.vec (encL out))) : (fzSl M t (out.length * 4) 0 out.length (openCap + 4) 4).le (.lst false out.length 4 (encL out)) = True := le_fzSl M t out h (by decide)
structure Book where
  Discs : (List Int)
  Pieces : (List Piece)
  Pause : Span
  Rest : Span
  deriving DecidableEq
instance elBook : El Book where
  sz := 6
  cells x := [enc x.Discs, enc x.Pieces, enc x.Pause.Low, enc x.Pause.High, enc x.Rest.Low, enc x.Rest.High]
  un cs := match cs with | [v0, v1, v2, v3, v4, v5] => (dec v0).bind fun a0 => (dec v1).bind fun a1 => (dec v2).bind fun a2 => (dec v3).bind fun a3 => (dec v4).bind fun a4 => (dec v5).bind fun a5 => some ⟨a0, a1, ⟨a2, a3⟩, ⟨a4, a5⟩⟩ | _ => none
  len _ := rfl
  un_le := by
    intro cs a h
    split at h
    · simp only [Option.bind_eq_some_iff, Option.some.injEq] at h
      obtain ⟨x0, h0, x1, h1, x2, h2, x3, h3, x4, h4, x5, h5, rfl⟩ := h
      exact ⟨Enc.dec_le h0, Enc.dec_le h1, Enc.dec_le h2, Enc.dec_le h3, Enc.dec_le h4, Enc.dec_le h5, trivial⟩
    · cases h
  un_cells x := by simp only [Enc.dec_enc, Option.bind_some]
  isF x := by simp only [PV.isFL, Bool.and_eq_true, and_true]; exact ⟨rfl, rfl, rfl, rfl, rfl, rfl⟩
instance encBook : Enc Book := encOfEl Book
@[simp] theorem sz_Book : El.sz Book = 6 := rfl
@[simp] theorem cells_Book (x : Book) : El.cells x = [enc x.Discs, enc x.Pieces, enc x.Pause.Low, enc x.Pause.High, enc x.Rest.Low, enc x.Rest.High] := rfl
@[simp] theorem enc_Book (x : Book) : enc x = PV.agg [enc x.Discs, enc x.Pieces, enc x.Pause.Low, enc x.Pause.High, enc x.Rest.Low, enc x.Rest.High] := rfl
@[simp] theorem dec_Book (v0 v1 v2 v3 v4 v5 : PV) : (dec (PV.agg [v0, v1, v2, v3, v4, v5]) : Option Book) = (dec v0).bind fun a0 => (dec v1).bind fun a1 => (dec v2).bind fun a2 => (dec v3).bind fun a3 => (dec v4).bind fun a4 => (dec v5).bind fun a5 => some ⟨a0, a1, ⟨a2, a3⟩, ⟨a4, a5⟩⟩ := rfl
@[simp] theorem eta_Book (x : Book) : (Book.mk x.Discs x.Pieces (Span.mk x.Pause.Low x.Pause.High) (Span.mk x.Rest.Low x.Rest.High)) = x := rfl
@[simp] theorem decl_Book (ex : Bool) (q : Nat) (l : List Book) (h : q = l.length) : (dec (PV.lst ex q 6 (encL l)) : Option (List Book)) = some l := by subst h; exact dec_lst ex l
@[simp] theorem decf_Book (M : VM) (t : Nat) (out : List Book) (h : M[t]? = some (.vec (encL out))) : (dec (fzSl M t (out.length * 6) 0 out.length (openCap + 6) 6) : Option (List Book)) = some out := dec_fzSl M t out h (by decide)
@[simp] theorem lef_Book (M : VM) (t : Nat) (out : List Book) (h : M[t]? = some (.vec (encL out))) : (fzSl M t (out.length * 6) 0 out.length (openCap + 6) 6).le (.lst false out.length 6 (encL out)) = True := le_fzSl M t out h (by decide)
structure Start where
  Piece : Int
  At : Int
  deriving DecidableEq
instance elStart : El Start where
  sz := 2
  cells x := [enc x.Piece, enc x.At]
  un cs := match cs with | [v0, v1] => (dec v0).bind fun a0 => (dec v1).bind fun a1 => some ⟨a0, a1⟩ | _ => none
  len _ := rfl
  un_le := by
    intro cs a h
    split at h
    · simp only [Option.bind_eq_some_iff, Option.some.injEq] at h
      obtain ⟨x0, h0, x1, h1, rfl⟩ := h
      exact ⟨Enc.dec_le h0, Enc.dec_le h1, trivial⟩
    · cases h
  un_cells x := by simp only [Enc.dec_enc, Option.bind_some]
  isF x := by simp only [PV.isFL, Bool.and_eq_true, and_true]; exact ⟨rfl, rfl⟩
instance encStart : Enc Start := encOfEl Start
@[simp] theorem sz_Start : El.sz Start = 2 := rfl
@[simp] theorem cells_Start (x : Start) : El.cells x = [enc x.Piece, enc x.At] := rfl
@[simp] theorem enc_Start (x : Start) : enc x = PV.agg [enc x.Piece, enc x.At] := rfl
@[simp] theorem dec_Start (v0 v1 : PV) : (dec (PV.agg [v0, v1]) : Option Start) = (dec v0).bind fun a0 => (dec v1).bind fun a1 => some ⟨a0, a1⟩ := rfl
@[simp] theorem eta_Start (x : Start) : (Start.mk x.Piece x.At) = x := rfl
@[simp] theorem decl_Start (ex : Bool) (q : Nat) (l : List Start) (h : q = l.length) : (dec (PV.lst ex q 2 (encL l)) : Option (List Start)) = some l := by subst h; exact dec_lst ex l
@[simp] theorem decf_Start (M : VM) (t : Nat) (out : List Start) (h : M[t]? = some (.vec (encL out))) : (dec (fzSl M t (out.length * 2) 0 out.length (openCap + 2) 2) : Option (List Start)) = some out := dec_fzSl M t out h (by decide)
@[simp] theorem lef_Start (M : VM) (t : Nat) (out : List Start) (h : M[t]? = some (.vec (encL out))) : (fzSl M t (out.length * 2) 0 out.length (openCap + 2) 2).le (.lst false out.length 2 (encL out)) = True := le_fzSl M t out h (by decide)
structure Asked where
  Text : (List Int)
  From : Int
  Pip : Int
  deriving DecidableEq
instance elAsked : El Asked where
  sz := 3
  cells x := [enc x.Text, enc x.From, enc x.Pip]
  un cs := match cs with | [v0, v1, v2] => (dec v0).bind fun a0 => (dec v1).bind fun a1 => (dec v2).bind fun a2 => some ⟨a0, a1, a2⟩ | _ => none
  len _ := rfl
  un_le := by
    intro cs a h
    split at h
    · simp only [Option.bind_eq_some_iff, Option.some.injEq] at h
      obtain ⟨x0, h0, x1, h1, x2, h2, rfl⟩ := h
      exact ⟨Enc.dec_le h0, Enc.dec_le h1, Enc.dec_le h2, trivial⟩
    · cases h
  un_cells x := by simp only [Enc.dec_enc, Option.bind_some]
  isF x := by simp only [PV.isFL, Bool.and_eq_true, and_true]; exact ⟨rfl, rfl, rfl⟩
instance encAsked : Enc Asked := encOfEl Asked
@[simp] theorem sz_Asked : El.sz Asked = 3 := rfl
@[simp] theorem cells_Asked (x : Asked) : El.cells x = [enc x.Text, enc x.From, enc x.Pip] := rfl
@[simp] theorem enc_Asked (x : Asked) : enc x = PV.agg [enc x.Text, enc x.From, enc x.Pip] := rfl
@[simp] theorem dec_Asked (v0 v1 v2 : PV) : (dec (PV.agg [v0, v1, v2]) : Option Asked) = (dec v0).bind fun a0 => (dec v1).bind fun a1 => (dec v2).bind fun a2 => some ⟨a0, a1, a2⟩ := rfl
@[simp] theorem eta_Asked (x : Asked) : (Asked.mk x.Text x.From x.Pip) = x := rfl
@[simp] theorem decl_Asked (ex : Bool) (q : Nat) (l : List Asked) (h : q = l.length) : (dec (PV.lst ex q 3 (encL l)) : Option (List Asked)) = some l := by subst h; exact dec_lst ex l
@[simp] theorem decf_Asked (M : VM) (t : Nat) (out : List Asked) (h : M[t]? = some (.vec (encL out))) : (dec (fzSl M t (out.length * 3) 0 out.length (openCap + 3) 3) : Option (List Asked)) = some out := dec_fzSl M t out h (by decide)
@[simp] theorem lef_Asked (M : VM) (t : Nat) (out : List Asked) (h : M[t]? = some (.vec (encL out))) : (fzSl M t (out.length * 3) 0 out.length (openCap + 3) 3).le (.lst false out.length 3 (encL out)) = True := le_fzSl M t out h (by decide)
structure Found where
  pieces : Int
  piece : Int
  at_ : Int
  deriving DecidableEq
instance elFound : El Found where
  sz := 3
  cells x := [enc x.pieces, enc x.piece, enc x.at_]
  un cs := match cs with | [v0, v1, v2] => (dec v0).bind fun a0 => (dec v1).bind fun a1 => (dec v2).bind fun a2 => some ⟨a0, a1, a2⟩ | _ => none
  len _ := rfl
  un_le := by
    intro cs a h
    split at h
    · simp only [Option.bind_eq_some_iff, Option.some.injEq] at h
      obtain ⟨x0, h0, x1, h1, x2, h2, rfl⟩ := h
      exact ⟨Enc.dec_le h0, Enc.dec_le h1, Enc.dec_le h2, trivial⟩
    · cases h
  un_cells x := by simp only [Enc.dec_enc, Option.bind_some]
  isF x := by simp only [PV.isFL, Bool.and_eq_true, and_true]; exact ⟨rfl, rfl, rfl⟩
instance encFound : Enc Found := encOfEl Found
@[simp] theorem sz_Found : El.sz Found = 3 := rfl
@[simp] theorem cells_Found (x : Found) : El.cells x = [enc x.pieces, enc x.piece, enc x.at_] := rfl
@[simp] theorem enc_Found (x : Found) : enc x = PV.agg [enc x.pieces, enc x.piece, enc x.at_] := rfl
@[simp] theorem dec_Found (v0 v1 v2 : PV) : (dec (PV.agg [v0, v1, v2]) : Option Found) = (dec v0).bind fun a0 => (dec v1).bind fun a1 => (dec v2).bind fun a2 => some ⟨a0, a1, a2⟩ := rfl
@[simp] theorem eta_Found (x : Found) : (Found.mk x.pieces x.piece x.at_) = x := rfl
@[simp] theorem decl_Found (ex : Bool) (q : Nat) (l : List Found) (h : q = l.length) : (dec (PV.lst ex q 3 (encL l)) : Option (List Found)) = some l := by subst h; exact dec_lst ex l
@[simp] theorem decf_Found (M : VM) (t : Nat) (out : List Found) (h : M[t]? = some (.vec (encL out))) : (dec (fzSl M t (out.length * 3) 0 out.length (openCap + 3) 3) : Option (List Found)) = some out := dec_fzSl M t out h (by decide)
@[simp] theorem lef_Found (M : VM) (t : Nat) (out : List Found) (h : M[t]? = some (.vec (encL out))) : (fzSl M t (out.length * 3) 0 out.length (openCap + 3) 3).le (.lst false out.length 3 (encL out)) = True := le_fzSl M t out h (by decide)
structure Spot where
  at_ : Int
  time : Int
  deriving DecidableEq
instance elSpot : El Spot where
  sz := 2
  cells x := [enc x.at_, enc x.time]
  un cs := match cs with | [v0, v1] => (dec v0).bind fun a0 => (dec v1).bind fun a1 => some ⟨a0, a1⟩ | _ => none
  len _ := rfl
  un_le := by
    intro cs a h
    split at h
    · simp only [Option.bind_eq_some_iff, Option.some.injEq] at h
      obtain ⟨x0, h0, x1, h1, rfl⟩ := h
      exact ⟨Enc.dec_le h0, Enc.dec_le h1, trivial⟩
    · cases h
  un_cells x := by simp only [Enc.dec_enc, Option.bind_some]
  isF x := by simp only [PV.isFL, Bool.and_eq_true, and_true]; exact ⟨rfl, rfl⟩
instance encSpot : Enc Spot := encOfEl Spot
@[simp] theorem sz_Spot : El.sz Spot = 2 := rfl
@[simp] theorem cells_Spot (x : Spot) : El.cells x = [enc x.at_, enc x.time] := rfl
@[simp] theorem enc_Spot (x : Spot) : enc x = PV.agg [enc x.at_, enc x.time] := rfl
@[simp] theorem dec_Spot (v0 v1 : PV) : (dec (PV.agg [v0, v1]) : Option Spot) = (dec v0).bind fun a0 => (dec v1).bind fun a1 => some ⟨a0, a1⟩ := rfl
@[simp] theorem eta_Spot (x : Spot) : (Spot.mk x.at_ x.time) = x := rfl
@[simp] theorem decl_Spot (ex : Bool) (q : Nat) (l : List Spot) (h : q = l.length) : (dec (PV.lst ex q 2 (encL l)) : Option (List Spot)) = some l := by subst h; exact dec_lst ex l
@[simp] theorem decf_Spot (M : VM) (t : Nat) (out : List Spot) (h : M[t]? = some (.vec (encL out))) : (dec (fzSl M t (out.length * 2) 0 out.length (openCap + 2) 2) : Option (List Spot)) = some out := dec_fzSl M t out h (by decide)
@[simp] theorem lef_Spot (M : VM) (t : Nat) (out : List Spot) (h : M[t]? = some (.vec (encL out))) : (fzSl M t (out.length * 2) 0 out.length (openCap + 2) 2).le (.lst false out.length 2 (encL out)) = True := le_fzSl M t out h (by decide)
structure End where
  pieces : Int
  first : Int
  deriving DecidableEq
instance elEnd : El End where
  sz := 2
  cells x := [enc x.pieces, enc x.first]
  un cs := match cs with | [v0, v1] => (dec v0).bind fun a0 => (dec v1).bind fun a1 => some ⟨a0, a1⟩ | _ => none
  len _ := rfl
  un_le := by
    intro cs a h
    split at h
    · simp only [Option.bind_eq_some_iff, Option.some.injEq] at h
      obtain ⟨x0, h0, x1, h1, rfl⟩ := h
      exact ⟨Enc.dec_le h0, Enc.dec_le h1, trivial⟩
    · cases h
  un_cells x := by simp only [Enc.dec_enc, Option.bind_some]
  isF x := by simp only [PV.isFL, Bool.and_eq_true, and_true]; exact ⟨rfl, rfl⟩
instance encEnd : Enc End := encOfEl End
@[simp] theorem sz_End : El.sz End = 2 := rfl
@[simp] theorem cells_End (x : End) : El.cells x = [enc x.pieces, enc x.first] := rfl
@[simp] theorem enc_End (x : End) : enc x = PV.agg [enc x.pieces, enc x.first] := rfl
@[simp] theorem dec_End (v0 v1 : PV) : (dec (PV.agg [v0, v1]) : Option End) = (dec v0).bind fun a0 => (dec v1).bind fun a1 => some ⟨a0, a1⟩ := rfl
@[simp] theorem eta_End (x : End) : (End.mk x.pieces x.first) = x := rfl
@[simp] theorem decl_End (ex : Bool) (q : Nat) (l : List End) (h : q = l.length) : (dec (PV.lst ex q 2 (encL l)) : Option (List End)) = some l := by subst h; exact dec_lst ex l
@[simp] theorem decf_End (M : VM) (t : Nat) (out : List End) (h : M[t]? = some (.vec (encL out))) : (dec (fzSl M t (out.length * 2) 0 out.length (openCap + 2) 2) : Option (List End)) = some out := dec_fzSl M t out h (by decide)
@[simp] theorem lef_End (M : VM) (t : Nat) (out : List End) (h : M[t]? = some (.vec (encL out))) : (fzSl M t (out.length * 2) 0 out.length (openCap + 2) 2).le (.lst false out.length 2 (encL out)) = True := le_fzSl M t out h (by decide)
end Go.RS.DC

/- The chapter voice, as plain functions (1): books, texts, the fewest pieces. -/
namespace Go.RS.DC
open Go Go.RS
open Go.RS.Enc (enc dec)
def spanOk (s : Span) (a b : Int) : Bool := decide (a ≤ s.Low) && decide (s.Low ≤ s.High) && decide (s.High ≤ b)
def discOf (b : Book) (x : Piece) : Int := b.Discs.getD x.Disc.toNat 1
theorem spanOk_iff (s : Span) (a b : Int) : spanOk s a b = true ↔ a ≤ s.Low ∧ s.Low ≤ s.High ∧ s.High ≤ b := by
  simp only [spanOk, Bool.and_eq_true, decide_eq_true_eq, and_assoc]
structure PieceOk (b : Book) (x : Piece) : Prop where
  w1 : 1 ≤ x.Words.length
  w2 : x.Words.length ≤ 4
  wr : ∀ n ∈ x.Words, 0 ≤ n ∧ n ≤ 299
  d0 : 0 ≤ x.Disc
  d1 : x.Disc < b.Discs.length
  t1 : 1 ≤ discOf b x
  t2 : discOf b x ≤ 500
  b0 : 0 ≤ x.Begin
  b1 : x.Begin < discOf b x
  l1 : 1 ≤ x.Long
  l2 : x.Long ≤ discOf b x
structure BookOk (b : Book) : Prop where
  d1 : 1 ≤ b.Discs.length
  d2 : b.Discs.length ≤ 4
  p1 : 1 ≤ b.Pieces.length
  p2 : b.Pieces.length ≤ 10
  a0 : 0 ≤ b.Pause.Low
  a1 : b.Pause.Low ≤ b.Pause.High
  a2 : b.Pause.High ≤ 200
  r0 : 0 ≤ b.Rest.Low
  r1 : b.Rest.Low ≤ b.Rest.High
  r2 : b.Rest.High ≤ 500
  ds : ∀ n ∈ b.Discs, 1 ≤ n ∧ n ≤ 500
  ps : ∀ x ∈ b.Pieces, PieceOk b x
/-! ### The fewest pieces -/
/-- Does a piece say what comes next? -/
def fitsB (x : Piece) (text : List Int) (p : Nat) : Bool := decide (p + x.Words.length ≤ text.length) && decide ((text.drop p).take x.Words.length = x.Words)
def pieceAt (b : Book) (i : Int) : Piece := b.Pieces.getD i.toNat ⟨[], 0, 0, 0⟩
/-- Pieces say what comes behind a place. -/
def Says (b : Book) (sel : Nat → Bool) (text : List Int) : Nat → List Int → Prop
  | p, [] => p = text.length
  | p, k :: l => 0 ≤ k ∧ k < b.Pieces.length ∧ sel k.toNat = true ∧ fitsB (pieceAt b k) text p = true ∧ Says b sel text (p + (pieceAt b k).Words.length) l
end Go.RS.DC

/- The chapter voice, as plain functions (2): the pieces that are needed. -/
namespace Go.RS.DC
open Go Go.RS
open Go.RS.Enc (enc dec)
/-! ### Lists that climb -/
/-- The first of several that are tried. -/
def tryF {α : Type} (g : Nat → Option α) : Nat → Nat → Option α
  | 0, _ => none
  | c + 1, k => match g k with
    | some x => some x
    | none => tryF g c (k + 1)
def chooseF (ok : List Int → Bool) (n : Nat) : Nat → Nat → List Int → Option (List Int)
  | 0, _, l => if ok l then some l else none
  | r + 1, f, l => tryF (fun k => chooseF ok n r (k + 1) (l ++ [(k : Int)])) (n - f) f
/-- The first of the shortest. -/
def needF (ok : List Int → Bool) (n : Nat) : Option (List Int) := tryF (fun many => chooseF ok n many 0 []) (n + 1) 0
/-! ### Sets as numbers -/
/-! ### Texts and the pieces they need -/
theorem Says.mono {b : Book} {s s' : Nat → Bool} (h : ∀ i, s i = true → s' i = true) {text : List Int} : ∀ {l : List Int} {p : Nat}, Says b s text p l → Says b s' text p l
  | [], _, hs => hs
  | k :: l, p, ⟨h0, h1, h2, h3, h4⟩ => ⟨h0, h1, h _ h2, h3, Says.mono h h4⟩
end Go.RS.DC

