/- A long run in pieces: between two pieces memory that nobody names is forgotten. -/
import Derived.Test.YtidnkmbicedmjaaDoorSimEy
set_option linter.all false
namespace Go.RS
open Go

/-- Which blocks are kept. -/
inductive KT where
  | leaf
  | node (b : Bool) (l r : KT)
noncomputable def gcT (k : KT) : HT → HT := KT.rec (motive := fun _ => HT → HT) (fun _ => .leaf) (fun b _ _ il ir t => HT.casesOn (motive := fun _ => HT) t .leaf fun o l r => .node (cond b o .junk) (il l) (ir r)) k
theorem gcT_get : ∀ (k : KT) (t : HT) (m : Nat), (gcT k t).get m = t.get m ∨ (gcT k t).get m = .junk
  | .leaf, t, m => .inr rfl
  | .node b l r, .leaf, m => .inr rfl
  | .node b l r, .node o tl tr, m => by
    show (HT.node (cond b o .junk) (gcT l tl) (gcT r tr)).get m = _ ∨ (HT.node (cond b o .junk) (gcT l tl) (gcT r tr)).get m = _
    rw [HT.get_node, HT.get_node]
    by_cases h0 : m = 0
    · simp only [h0, if_true]; cases b
      · exact .inr rfl
      · exact .inl rfl
    · simp only [h0, if_false]
      by_cases h1 : m % 2 = 1
      · simp only [h1, if_true]; exact gcT_get l tl _
      · simp only [h1, if_false]; exact gcT_get r tr _
noncomputable def gcE (k : KT) (h : EH) : EH := EH.casesOn h fun n low t => ⟨n, low, gcT k t⟩
theorem gcE_less (k : KT) (h : EH) : Less h.ah (gcE k h).ah := by
  obtain ⟨n, low, t⟩ := h
  refine ⟨by rw [EH.size_ah, EH.size_ah]; rfl, fun b => ?_⟩
  rw [EH.get_ah, EH.get_ah, EH.get_eq, EH.get_eq, EH.size_ah]
  show (if b < n then some ((gcT k t).get b) else none) = (if b < n then some (t.get b) else none) ∨ (b < n ∧ (if b < n then some ((gcT k t).get b) else none) = some .junk)
  by_cases hb : b < n
  · simp only [hb, if_true, true_and]
    rcases gcT_get k t b with h1 | h1
    · exact .inl (by rw [h1])
    · exact .inr (by rw [h1])
  · simp [hb]
/-- A piece: what it leaves, cleaned. -/
noncomputable def piece (k : KT) (r : Option ERes) : Option (FF × EH) := resK r fun e f h => cond e.isN (some (f, gcE k h)) none
theorem piece_some {k : KT} {r : Option ERes} {f : FF} {h : EH} (hp : piece k r = some (f, h)) : ∃ h', r = some (.out .normal f h') ∧ h = gcE k h' := by
  obtain ⟨e, f', h', rfl, hx⟩ := resK_some hp
  obtain ⟨hn, hx⟩ := cond_some hx
  cases hx
  exact ⟨h', by rw [isN_iff hn], rfl⟩
theorem piece_seq {G : Env} {lo n : Nat} {a b : ACode} {fr fr1 : FF} {h h1 : EH} {k : KT} {r : Res} (hp : piece k (evN G.fn lo n (.code a fr h)) = some (fr1, h1)) (hb : B G lo (.code b fr1.get h1.ah) r) : B G lo (.code (.seq a b) fr.get h.ah) r := by
  obtain ⟨h', he, rfl⟩ := piece_some hp
  exact .seq (ev_sound n _ _ he).1 (.weak (gcE_less k h') hb)
/-- Statements one behind the other. -/
def seqL (l : List ACode) (rest : ACode) : ACode := l.foldr .seq rest
noncomputable def runL (G : Nat → Option AFn) (lo n : Nat) (l : List ACode) : FF → EH → Option (FF × EH) :=
  List.rec (motive := fun _ => FF → EH → Option (FF × EH)) (fun fr h => some (fr, h)) (fun c _ ih fr h => resK (evN G lo n (.code c fr h)) fun e f h => cond e.isN (ih f h) none) l
noncomputable def pieceL (k : KT) (x : Option (FF × EH)) : Option (FF × EH) := ob2 x fun f h => some (f, gcE k h)
theorem runL_seq {G : Env} {lo n : Nat} {rest : ACode} {r : Res} : ∀ {l : List ACode} {fr fr1 : FF} {h h1 : EH}, runL G.fn lo n l fr h = some (fr1, h1) → B G lo (.code rest fr1.get h1.ah) r → B G lo (.code (seqL l rest) fr.get h.ah) r
  | [], fr, fr1, h, h1, he, hb => by cases he; exact hb
  | c :: l, fr, fr1, h, h1, he, hb => by
    obtain ⟨e, f', h', ha, he⟩ := resK_some (k := fun e f h => cond e.isN (runL G.fn lo n l f h) none) he
    obtain ⟨hn, he⟩ := cond_some he
    obtain rfl := isN_iff hn
    exact .seq (ev_sound n _ _ ha).1 (runL_seq he hb)
theorem pieceL_seq {G : Env} {lo n : Nat} {rest : ACode} {r : Res} {l : List ACode} {fr fr1 : FF} {h h1 : EH} {k : KT} (hp : pieceL k (runL G.fn lo n l fr h) = some (fr1, h1)) (hb : B G lo (.code rest fr1.get h1.ah) r) :
    B G lo (.code (seqL l rest) fr.get h.ah) r := by
  obtain ⟨f, h', he, hx⟩ := ob2_some hp
  cases hx
  exact runL_seq he (.weak (gcE_less k h') hb)
end Go.RS

