/- Abstract values and memory against real ones: blocks renamed, capacities unknown. -/
import Derived.Test.YtidnkmbicedmjaaDoorSimL
namespace Go.RS
open Go

/-- Abstract block: the real block, the offset and the block's size. -/
abbrev Bij := Nat → Option (Nat × (Nat × Nat))
def BLe (β γ : Bij) : Prop := ∀ b x, β b = some x → γ b = some x
theorem BLe.refl (β : Bij) : BLe β β := fun _ _ h => h
theorem BLe.trans {α β γ : Bij} (h : BLe α β) (k : BLe β γ) : BLe α γ := fun b x hx => k b x (h b x hx)

structure ARel (β : Bij) (a a' : Addr) : Prop where
  s : a.spot = none
  s' : a'.spot = none
  at_ : ∃ d, β a.block = some (a'.block, d) ∧ a'.off = d.1 + a.off
inductive FnRel (β : Bij) : Fn → Fn → Prop where
  | func (f : Nat) : FnRel β (.func f) (.func f)
  | yield {l l' : Nat} (h : β l = some (l', (0, 0))) : FnRel β (.yield l) (.yield l')
def CapRel (β : Bij) (a : Addr) (n c c' : Nat) : Prop := n < openCap ∧ ((c < openCap ∧ c' = c ∧ n ≤ c) ∨ (∃ s, c = openCap + s ∧ n ≤ c' ∧ (0 < s → ∃ r d, β a.block = some (r, d) ∧ d.1 + a.off + c' * s ≤ d.2)))

inductive VRel (β : Bij) : Value → Value → Prop where
  | bool (b : Bool) : VRel β (.bool b) (.bool b)
  | int (k : IntKind) (n : Int) : VRel β (.int k n) (.int k n)
  | string (s : ByteArray) : VRel β (.string s) (.string s)
  | ptr0 : VRel β (.pointer none) (.pointer none)
  | ptr {a a' : Addr} (h : ARel β a a') : VRel β (.pointer (some a)) (.pointer (some a'))
  | sl0 (n c : Nat) : VRel β (.slice none n c) (.slice none n c)
  | sl {a a' : Addr} {n c c' : Nat} (h : ARel β a a') (hc : CapRel β a n c c') : VRel β (.slice (some a) n c) (.slice (some a') n c')
  | map0 : VRel β (.map none) (.map none)
  | map {r r' : Nat} (h : β r = some (r', (0, 0))) : VRel β (.map (some r)) (.map (some r'))
  | nilFunc : VRel β .nilFunc .nilFunc
  | func {f f' : Fn} {x x' c c' : Array Value} (hf : FnRel β f f') (s1 : x.size = x'.size) (h1 : ∀ (i : Nat) (v v' : Value), x[i]? = some v → x'[i]? = some v' → VRel β v v')
      (s2 : c.size = c'.size) (h2 : ∀ (i : Nat) (v v' : Value), c[i]? = some v → c'[i]? = some v' → VRel β v v') : VRel β (.func f x c) (.func f' x' c')
  | nilIface : VRel β .nilIface .nilIface
  | agg {x x' : Array Value} (s : x.size = x'.size) (h : ∀ (i : Nat) (v v' : Value), x[i]? = some v → x'[i]? = some v' → VRel β v v') : VRel β (.agg x) (.agg x')
  | tuple {x x' : Array Value} (s : x.size = x'.size) (h : ∀ (i : Nat) (v v' : Value), x[i]? = some v → x'[i]? = some v' → VRel β v v') : VRel β (.tuple x) (.tuple x')

theorem ARel.mono {β γ : Bij} (hl : BLe β γ) {a a' : Addr} (h : ARel β a a') : ARel γ a a' :=
  ⟨h.s, h.s', let ⟨d, h1, h2⟩ := h.at_; ⟨d, hl _ _ h1, h2⟩⟩
theorem FnRel.mono {β γ : Bij} (hl : BLe β γ) {a a' : Fn} (h : FnRel β a a') : FnRel γ a a' := by
  cases h with
  | func f => exact .func f
  | yield h => exact .yield (hl _ _ h)
theorem CapRel.mono {β γ : Bij} (hl : BLe β γ) {a : Addr} {n c c' : Nat} (h : CapRel β a n c c') : CapRel γ a n c c' :=
  ⟨h.1, h.2.imp id fun ⟨s, h1, h2, h3⟩ => ⟨s, h1, h2, fun hs => let ⟨r, d, h4, h5⟩ := h3 hs; ⟨r, d, hl _ _ h4, h5⟩⟩⟩
theorem VRel.mono {β γ : Bij} (hl : BLe β γ) {v v' : Value} (h : VRel β v v') : VRel γ v v' := by
  induction h with
  | bool b => exact .bool b
  | int k n => exact .int k n
  | string s => exact .string s
  | ptr0 => exact .ptr0
  | ptr h => exact .ptr (h.mono hl)
  | sl0 n c => exact .sl0 n c
  | sl h hc => exact .sl (h.mono hl) (hc.mono hl)
  | map0 => exact .map0
  | map h => exact .map (hl _ _ h)
  | nilFunc => exact .nilFunc
  | func hf s1 _ s2 _ i1 i2 => exact .func (hf.mono hl) s1 i1 s2 i2
  | nilIface => exact .nilIface
  | agg s _ ih => exact .agg s ih
  | tuple s _ ih => exact .tuple s ih
theorem VRel.undef (β : Bij) : VRel β undef undef := .tuple rfl (fun i v v' h => by simp at h)

/-- Lists of values. -/
def LRel (β : Bij) (xs ys : List Value) : Prop := xs.length = ys.length ∧ ∀ (i : Nat) (v v' : Value), xs[i]? = some v → ys[i]? = some v' → VRel β v v'
theorem LRel.mono {β γ : Bij} (hl : BLe β γ) {xs ys : List Value} (h : LRel β xs ys) : LRel γ xs ys := ⟨h.1, fun i v v' a b => (h.2 i v v' a b).mono hl⟩
theorem LRel.nil (β : Bij) : LRel β [] [] := ⟨rfl, fun i v v' h => by simp at h⟩
theorem LRel.cons {β : Bij} {x y : Value} {xs ys : List Value} (h : VRel β x y) (t : LRel β xs ys) : LRel β (x :: xs) (y :: ys) :=
  ⟨by simp [t.1], fun i v v' a b => by
    cases i with
    | zero => simp at a b; subst a b; exact h
    | succ i => simp at a b; exact t.2 i v v' a b⟩
theorem LRel.head {β : Bij} {x y : Value} {xs ys : List Value} (h : LRel β (x :: xs) (y :: ys)) : VRel β x y := h.2 0 x y rfl rfl
theorem LRel.tail {β : Bij} {x y : Value} {xs ys : List Value} (h : LRel β (x :: xs) (y :: ys)) : LRel β xs ys :=
  ⟨by simpa using h.1, fun i v v' a b => h.2 (i + 1) v v' (by simpa using a) (by simpa using b)⟩
theorem LRel.append {β : Bij} {a b c d : List Value} (h : LRel β a b) (k : LRel β c d) : LRel β (a ++ c) (b ++ d) := by
  refine ⟨by simp [h.1, k.1], fun i v v' x y => ?_⟩
  by_cases hi : i < a.length
  · rw [List.getElem?_append_left hi] at x
    rw [List.getElem?_append_left (h.1 ▸ hi)] at y
    exact h.2 i v v' x y
  · rw [List.getElem?_append_right (by omega)] at x
    rw [List.getElem?_append_right (by rw [← h.1]; omega), ← h.1] at y
    exact k.2 _ v v' x y
theorem LRel.take {β : Bij} {a b : List Value} (h : LRel β a b) (n : Nat) : LRel β (a.take n) (b.take n) := by
  refine ⟨by simp [h.1], fun i v v' x y => ?_⟩
  rw [List.getElem?_take] at x y
  split at x
  · rename_i hi; rw [if_pos hi] at y; exact h.2 i v v' x y
  · cases x
theorem LRel.drop {β : Bij} {a b : List Value} (h : LRel β a b) (n : Nat) : LRel β (a.drop n) (b.drop n) := by
  refine ⟨by simp [h.1], fun i v v' x y => ?_⟩
  rw [List.getElem?_drop] at x y
  exact h.2 _ v v' x y
theorem LRel.get {β : Bij} {a b : List Value} (h : LRel β a b) {i : Nat} {v : Value} (x : a[i]? = some v) : ∃ v', b[i]? = some v' ∧ VRel β v v' := by
  have hi : i < a.length := (List.getElem?_eq_some_iff.1 x).1
  have hb : i < b.length := h.1 ▸ hi
  exact ⟨b[i], List.getElem?_eq_getElem hb, h.2 i v _ x (List.getElem?_eq_getElem hb)⟩
theorem LRel.splice {β : Bij} {a b c d : List Value} (h : LRel β a b) (k : LRel β c d) (o : Nat) : LRel β (splice a o c) (splice b o d) := by
  unfold RS.splice
  rw [k.1]
  exact ((h.take o).append k).append (h.drop _)
theorem LRel.map {α : Type} {β : Bij} {f g : α → Value} {l : List α} (h : ∀ x ∈ l, VRel β (f x) (g x)) : LRel β (l.map f) (l.map g) := by
  induction l with
  | nil => exact .nil β
  | cons x l ih => exact .cons (h x (by simp)) (ih fun y hy => h y (by simp [hy]))
theorem VRel.agg' {β : Bij} {x x' : Array Value} (h : LRel β x.toList x'.toList) : VRel β (.agg x) (.agg x') :=
  .agg (by simpa using h.1) (fun i v v' a b => h.2 i v v' (by simpa using a) (by simpa using b))
theorem VRel.tuple' {β : Bij} {x x' : Array Value} (h : LRel β x.toList x'.toList) : VRel β (.tuple x) (.tuple x') :=
  .tuple (by simpa using h.1) (fun i v v' a b => h.2 i v v' (by simpa using a) (by simpa using b))
theorem arr_rel {β : Bij} {x x' : Array Value} (s : x.size = x'.size) (h : ∀ (i : Nat) (v v' : Value), x[i]? = some v → x'[i]? = some v' → VRel β v v') : LRel β x.toList x'.toList :=
  ⟨by simpa using s, fun i v v' a b => h i v v' (by simpa using a) (by simpa using b)⟩
theorem VRel.cells {β : Bij} {v v' : Value} (h : VRel β v v') : LRel β v.cells.toList v'.cells.toList := by
  cases h <;> first
    | (rename_i s h; exact arr_rel s h)
    | (simp only [Value.cells]; exact .cons (by constructor <;> assumption) (.nil β))
theorem VRel.scal {β : Bij} {v v' : Value} (h : VRel β v v') : scal v' = scal v := by cases h <;> rfl
theorem VRel.cells_size {β : Bij} {v v' : Value} (h : VRel β v v') : v'.cells.size = v.cells.size := by
  have := h.cells.1
  simpa using this.symm
theorem closedS_rel {β : Bij} {v : Value} (h : closedS v = true) : VRel β v v := by
  cases v with
  | bool b => exact .bool b
  | int k n => exact .int k n
  | string s => exact .string s
  | pointer a => cases a <;> simp [closedS] at h; exact .ptr0
  | slice a n c => cases a <;> simp [closedS] at h; exact .sl0 n c
  | map r => cases r <;> simp [closedS] at h; exact .map0
  | nilFunc => exact .nilFunc
  | nilIface => exact .nilIface
  | func f x c =>
    cases f <;> simp [closedS] at h
    obtain ⟨rfl, rfl⟩ := h
    exact .func (.func _) rfl (fun i v v' h => by simp at h) rfl (fun i v v' h => by simp at h)
  | _ => simp [closedS] at h
theorem closedL_rel {β : Bij} {xs : List Value} (h : xs.all closedS = true) : LRel β xs xs :=
  ⟨rfl, fun i v v' a b => by
    rw [a] at b; cases b
    exact closedS_rel (List.all_eq_true.1 h v (List.mem_of_getElem? a))⟩
theorem closedV_rel {β : Bij} {v : Value} (h : closedV v = true) : VRel β v v := by
  cases v with
  | agg cs => exact .agg' (closedL_rel (by simpa [closedV] using h))
  | tuple cs => exact .tuple' (closedL_rel (by simpa [closedV] using h))
  | _ => exact closedS_rel h

/-- Frames. -/
def FRel (β : Bij) (fr : Fr) (tmps : Array Value) : Prop := ∀ i, VRel β (fr i) (tmps.getD i undef)
theorem FRel.mono {β γ : Bij} (hl : BLe β γ) {fr : Fr} {tmps : Array Value} (h : FRel β fr tmps) : FRel γ fr tmps := fun i => (h i).mono hl
theorem FRel.set {β : Bij} {fr : Fr} {tmps : Array Value} (h : FRel β fr tmps) {d : Nat} {v v' : Value} (hd : d < tmps.size) (hv : VRel β v v') :
    FRel β (upd fr d v) (tmps.setIfInBounds d v') := by
  intro i
  unfold upd
  by_cases hi : i = d
  · subst hi; simp [hd]; exact hv
  · simp only [hi, if_false]
    have := h i
    rw [Array.getD_eq_getD_getElem?] at this ⊢
    rw [Array.getElem?_setIfInBounds_ne (Ne.symm hi)]
    exact this

def JRel : Option Jump → Option Code → Prop
  | none, none => True
  | some (.exit id), some (.exit id') => id' = id
  | some .ret, some .ret => True
  | _, _ => False

structure LoopRel (P : Program) (β : Bij) (L : ALoop) (L' : Loop) : Prop where
  fr : FRel β L.fr L'.tmps
  ps : L'.params.toList = L.params
  pb : ∀ p ∈ L.params, p < L'.tmps.size
  a : lowC P L'.tmps.size L'.assign = L.assign
  b : lowC P L'.tmps.size L'.body = L.body
  st : L'.state = L.state
  pj : JRel L.pending L'.pending

def ERel (β : Bij) (es : List (Value × Value × Nat)) (es' : Array MapEntry) : Prop :=
  es'.size = es.length ∧ ∀ (i : Nat) (e : Value × Value × Nat) (e' : MapEntry), es[i]? = some e → es'[i]? = some e' → VRel β e.1 e'.key ∧ VRel β e.2.1 e'.val ∧ e'.born = e.2.2

/-- An abstract object against the object that lies in a real heap. -/
def objSize : Obj → Nat
  | .cells c _ _ => c.size
  | _ => 0
def ORel (P : Program) (β : Bij) (wr : Prop) (o : AObj) (x : Option Obj) (d : Nat × Nat) : Prop :=
  match o with
  | .cells c => ∃ c' e fz, x = some (.cells c' e fz) ∧ (wr → fz = (0, 0)) ∧ c'.size = d.2 ∧ ∀ (i : Nat) (v : Value), c[i]? = some v → ∃ v', c'[d.1 + i]? = some v' ∧ VRel β v v'
  | .map es clock => d = (0, 0) ∧ ∃ es', x = some (.map es' clock) ∧ ERel β es es'
  | .loop L => d = (0, 0) ∧ ∃ L', x = some (.loop L') ∧ LoopRel P β L L'
  | .junk => True

theorem ORel.mono {P : Program} {β γ : Bij} (hl : BLe β γ) {wr : Prop} {o : AObj} {x : Option Obj} {d : Nat × Nat} (h : ORel P β wr o x d) : ORel P γ wr o x d := by
  cases o with
  | cells c =>
    obtain ⟨c', e, fz, h1, h2, h2', h3⟩ := h
    exact ⟨c', e, fz, h1, h2, h2', fun i v hv => let ⟨v', a, b⟩ := h3 i v hv; ⟨v', a, b.mono hl⟩⟩
  | map es clock =>
    obtain ⟨hd, es', h1, h2, h3⟩ := h
    exact ⟨hd, es', h1, h2, fun i e e' a b => let ⟨x, y, z⟩ := h3 i e e' a b; ⟨x.mono hl, y.mono hl, z⟩⟩
  | loop L =>
    obtain ⟨hd, L', h1, h2⟩ := h
    exact ⟨hd, L', h1, ⟨h2.fr.mono hl, h2.ps, h2.pb, h2.a, h2.b, h2.st, h2.pj⟩⟩
  | junk => trivial

structure HRel (P : Program) (lo n0 : Nat) (β : Bij) (h : AH) (w : World) : Prop where
  dom : ∀ b r d, β b = some (r, d) → b < h.size ∧ r < w.heap.size
  obj : ∀ b r d o, β b = some (r, d) → h[b]? = some o → ORel P β (lo ≤ b) o w.heap[r]? d
  img : ∀ b r d, lo ≤ b → β b = some (r, d) → n0 ≤ r
  low : ∀ b r d, b < lo → β b = some (r, d) → r < n0
  inj : ∀ b b' r d d', lo ≤ b → lo ≤ b' → β b = some (r, d) → β b' = some (r, d') → h[b]? ≠ some .junk → h[b']? ≠ some .junk → b = b'
  glob : ∀ g, g < P.globals.size → ∃ z, β g = some (g, (0, z))
  los : lo ≤ h.size
  n0s : n0 ≤ w.heap.size

/-- What a run has done: only blocks of its own are turned. -/
structure Ext (lo : Nat) (β : Bij) (h : AH) (w : World) (β1 : Bij) (h1 : AH) (w1 : World) : Prop where
  agree : ∀ b, b < h.size → β1 b = β b
  hs : h.size ≤ h1.size
  ws : w.heap.size ≤ w1.heap.size
  junk : ∀ (b : Nat) (x : Nat × (Nat × Nat)), β b = some x → h[b]? = some .junk → h1[b]? = some .junk
  keep : ∀ r : Nat, r < w.heap.size → (∀ (b : Nat) (d : Nat × Nat), lo ≤ b → β b = some (r, d) → h[b]? = some .junk) → w1.heap[r]? = w.heap[r]?
  fresh : ∀ (b r : Nat) (d : Nat × Nat), h.size ≤ b → β1 b = some (r, d) → w.heap.size ≤ r ∨ ∃ (b0 : Nat) (d0 : Nat × Nat), lo ≤ b0 ∧ β b0 = some (r, d0) ∧ h[b0]? ≠ some .junk
  lps : ∀ (r : Nat) (L : Loop), w.heap[r]? = some (.loop L) → ∃ L' : Loop, w1.heap[r]? = some (.loop L')
  env : w1.os = w.os ∧ w1.tape = w.tape ∧ w1.output = w.output

section
variable {P : Program} {lo n0 : Nat} {β β1 β2 : Bij} {h h1 h2 : AH} {w w1 w2 : World}

theorem Ext.le (e : Ext lo β h w β1 h1 w1) (R : HRel P lo n0 β h w) : BLe β β1 := fun b x hx => by
  obtain ⟨r, d⟩ := x
  rw [e.agree b (R.dom b r d hx).1]; exact hx
theorem Ext.refl (R : HRel P lo n0 β h w) : Ext lo β h w β h w :=
  ⟨fun _ _ => rfl, Nat.le_refl _, Nat.le_refl _, fun _ _ _ h => h, fun _ _ _ => rfl, fun b r d hb hx => (by have := (R.dom b r d hx).1; omega), fun r L hL => ⟨L, hL⟩, rfl, rfl, rfl⟩
theorem Ext.trans (e : Ext lo β h w β1 h1 w1) (f : Ext lo β1 h1 w1 β2 h2 w2) : Ext lo β h w β2 h2 w2 := by
  refine ⟨fun b hb => (f.agree b (Nat.lt_of_lt_of_le hb e.hs)).trans (e.agree b hb), Nat.le_trans e.hs f.hs, Nat.le_trans e.ws f.ws, fun b x hx hb => f.junk b x (by rw [e.agree b (Array.getElem?_eq_some_iff.1 hb).1]; exact hx) (e.junk b x hx hb), ?_, ?_, fun r L hL => (let ⟨L1, h1⟩ := e.lps r L hL; f.lps r L1 h1), ?_⟩
  · intro r hr hk
    have h1' := e.keep r hr hk
    refine (f.keep r (Nat.lt_of_lt_of_le hr e.ws) fun b d hlo hb => ?_).trans h1'
    by_cases hbh : b < h.size
    · rw [e.agree b hbh] at hb
      exact e.junk b _ hb (hk b d hlo hb)
    · rcases e.fresh b r d (by omega) hb with h2 | ⟨b0, d0, hl0, h3, h4⟩
      · omega
      · exact absurd (hk b0 d0 hl0 h3) h4
  · intro b r d hb hx
    by_cases hb1 : b < h1.size
    · rw [f.agree b hb1] at hx
      exact e.fresh b r d hb hx
    · rcases f.fresh b r d (by omega) hx with h2 | ⟨b0, d0, hl0, h3, h4⟩
      · exact .inl (Nat.le_trans e.ws h2)
      · by_cases hb0 : b0 < h.size
        · rw [e.agree b0 hb0] at h3
          exact .inr ⟨b0, d0, hl0, h3, fun hj => h4 (e.junk b0 _ h3 hj)⟩
        · exact e.fresh b0 r d0 (by omega) h3
  · exact ⟨f.env.1.trans e.env.1, f.env.2.1.trans e.env.2.1, f.env.2.2.trans e.env.2.2⟩

/-- A world that differs in the count of draws alone. -/
theorem HRel.drew (R : HRel P lo n0 β h w) (k : Nat) : HRel P lo n0 β h { w with drawn := k } :=
  ⟨R.dom, R.obj, R.img, R.low, R.inj, R.glob, R.los, R.n0s⟩
theorem Ext.drew (e : Ext lo β h w β1 h1 w1) (k : Nat) : Ext lo β h w β1 h1 { w1 with drawn := k } :=
  ⟨e.agree, e.hs, e.ws, e.junk, e.keep, e.fresh, e.lps, e.env⟩
theorem Ext.undrew {k : Nat} (e : Ext lo β h { w with drawn := k } β1 h1 w1) : Ext lo β h w β1 h1 w1 :=
  ⟨e.agree, e.hs, e.ws, e.junk, e.keep, e.fresh, e.lps, e.env⟩

def bset (β : Bij) (b : Nat) (x : Nat × (Nat × Nat)) : Bij := fun c => if c = b then some x else β c
@[simp] theorem bset_same (β : Bij) (b : Nat) (x : Nat × (Nat × Nat)) : bset β b x b = some x := by simp [bset]
theorem bset_other (β : Bij) {b c : Nat} (x : Nat × (Nat × Nat)) (hc : c ≠ b) : bset β b x c = β c := by simp [bset, hc]
theorem bset_le (R : HRel P lo n0 β h w) (x : Nat × (Nat × Nat)) : BLe β (bset β h.size x) := fun b y hy => by
  obtain ⟨r, d⟩ := y
  have := (R.dom b r d hy).1
  rw [bset_other β x (by omega)]; exact hy

/-- A new block on both sides. -/
theorem HRel.alloc (R : HRel P lo n0 β h w) (o : AObj) (o' : Obj) (ho : ORel P β True o (some o') (0, objSize o')) :
    HRel P lo n0 (bset β h.size (w.heap.size, (0, objSize o'))) (h.push o) { w with heap := w.heap.push o' } ∧
    Ext lo β h w (bset β h.size (w.heap.size, (0, objSize o'))) (h.push o) { w with heap := w.heap.push o' } := by
  have hle := bset_le R (w.heap.size, (0, objSize o'))
  have hold : ∀ b r d, b ≠ h.size → bset β h.size (w.heap.size, (0, objSize o')) b = some (r, d) → β b = some (r, d) := fun b r d hb hx => by rwa [bset_other β _ hb] at hx
  refine ⟨⟨?_, ?_, ?_, ?_, ?_, ?_, ?_, ?_⟩, ⟨?_, ?_, ?_, ?_, ?_, ?_, ?_, ⟨rfl, rfl, rfl⟩⟩⟩
  · intro b r d hx
    by_cases hb : b = h.size
    · subst hb; simp at hx; obtain ⟨rfl, rfl⟩ := hx; simp
    · have := R.dom b r d (hold b r d hb hx); simp; omega
  · intro b r d o2 hx ho2
    by_cases hb : b = h.size
    · subst hb
      simp at hx ho2; obtain ⟨rfl, rfl⟩ := hx; subst ho2
      have := ho.mono hle
      simp only [Array.getElem?_push_size]
      cases o with
      | cells c => obtain ⟨c', e, fz, a, b, b2, c⟩ := this; exact ⟨c', e, fz, a, fun _ => b trivial, b2, c⟩
      | map es clock => exact this
      | loop L => exact this
      | junk => trivial
    · have hx' := hold b r d hb hx
      have hd := R.dom b r d hx'
      rw [Array.getElem?_push, if_neg hb] at ho2
      have := (R.obj b r d o2 hx' ho2).mono hle
      simp only [Array.getElem?_push]
      rw [if_neg (by omega)]
      exact this
  · intro b r d hl hx
    by_cases hb : b = h.size
    · subst hb; simp at hx; obtain ⟨rfl, rfl⟩ := hx; exact R.n0s
    · exact R.img b r d hl (hold b r d hb hx)
  · intro b r d hl hx
    have hb : b ≠ h.size := by have := R.los; omega
    exact R.low b r d hl (hold b r d hb hx)
  · intro b b' r d d' hl hl' hx hx' hj hj'
    by_cases hb : b = h.size
    · by_cases hb' : b' = h.size
      · omega
      · have := R.dom b' r d' (hold b' r d' hb' hx')
        subst hb; simp at hx; omega
    · by_cases hb' : b' = h.size
      · have := R.dom b r d (hold b r d hb hx)
        subst hb'; simp at hx'; omega
      · rw [Array.getElem?_push, if_neg hb] at hj
        rw [Array.getElem?_push, if_neg hb'] at hj'
        exact R.inj b b' r d d' hl hl' (hold b r d hb hx) (hold b' r d' hb' hx') hj hj'
  · intro g hg; obtain ⟨z, hz⟩ := R.glob g hg; exact ⟨z, hle _ _ hz⟩
  · simp; have := R.los; omega
  · simp; have := R.n0s; omega
  · intro b hb; exact bset_other β _ (by omega)
  · simp
  · simp
  · intro b _ _ hb
    have hlt : b < h.size := (Array.getElem?_eq_some_iff.1 hb).1
    rw [Array.getElem?_push, if_neg (by omega)]; exact hb
  · intro r hr _
    show (w.heap.push o')[r]? = _
    rw [Array.getElem?_push, if_neg (by omega)]
  · intro b r d hb hx
    by_cases hb' : b = h.size
    · subst hb'; simp at hx; left; omega
    · have := R.dom b r d (hold b r d hb' hx); omega
  · intro r L hL
    have hlt : r < w.heap.size := (Array.getElem?_eq_some_iff.1 hL).1
    refine ⟨L, ?_⟩
    show (w.heap.push o')[r]? = _
    rw [Array.getElem?_push, if_neg (by omega)]; exact hL

/-- A block of the run's own is turned on both sides. -/
theorem HRel.set (R : HRel P lo n0 β h w) {b r : Nat} {d : Nat × Nat} (hl : lo ≤ b) (hb : β b = some (r, d)) (hj : h[b]? ≠ some .junk) (o : AObj) (o' : Obj) (ho : ORel P β True o (some o') d) (hoj : o ≠ .junk) (hlp : ∀ L : Loop, w.heap[r]? = some (.loop L) → ∃ L' : Loop, o' = .loop L') :
    HRel P lo n0 β (h.setIfInBounds b o) { w with heap := w.heap.setIfInBounds r o' } ∧
    Ext lo β h w β (h.setIfInBounds b o) { w with heap := w.heap.setIfInBounds r o' } := by
  obtain ⟨hbs, hrs⟩ := R.dom b r d hb
  refine ⟨⟨?_, ?_, R.img, R.low, ?_, R.glob, ?_, ?_⟩, ⟨fun _ _ => rfl, by simp, by simp, ?_, ?_, ?_, ?_, ⟨rfl, rfl, rfl⟩⟩⟩
  · intro b2 r2 d2 hx; have := R.dom b2 r2 d2 hx; simpa using this
  · intro b2 r2 d2 o2 hx ho2
    by_cases he : b2 = b
    · subst he
      rw [hb] at hx; cases hx
      simp [hbs] at ho2; subst ho2
      simp only [Array.getElem?_setIfInBounds_self, hrs, if_true]
      cases o with
      | cells c => obtain ⟨c', e, fz, a, b, b2, c⟩ := ho; exact ⟨c', e, fz, a, fun _ => b trivial, b2, c⟩
      | map es clock => exact ho
      | loop L => exact ho
      | junk => trivial
    · rw [Array.getElem?_setIfInBounds_ne (Ne.symm he)] at ho2
      have h0 := R.obj b2 r2 d2 o2 hx ho2
      by_cases hj2 : o2 = .junk
      · subst hj2; trivial
      · have hne : r2 ≠ r := by
          intro hr; subst hr
          by_cases hl2 : lo ≤ b2
          · exact he (R.inj b2 b r2 d2 d hl2 hl hx hb (by rw [ho2]; simpa using hj2) hj)
          · have h1 := R.low b2 r2 d2 (by omega) hx
            have h2 := R.img b r2 d hl hb
            omega
        simp only [Array.getElem?_setIfInBounds_ne (Ne.symm hne)]
        exact h0
  · intro b2 b3 r2 d2 d3 hl2 hl3 hx2 hx3 hj2 hj3
    refine R.inj b2 b3 r2 d2 d3 hl2 hl3 hx2 hx3 ?_ ?_
    · by_cases he : b2 = b
      · subst he; exact hj
      · rwa [Array.getElem?_setIfInBounds_ne (Ne.symm he)] at hj2
    · by_cases he : b3 = b
      · subst he; exact hj
      · rwa [Array.getElem?_setIfInBounds_ne (Ne.symm he)] at hj3
  · simpa using R.los
  · simpa using R.n0s
  · intro b2 _ _ hb2
    by_cases he : b2 = b
    · subst he; exact absurd hb2 hj
    · rw [Array.getElem?_setIfInBounds_ne (Ne.symm he)]; exact hb2
  · intro r2 hr2 hk
    have hne : r2 ≠ r := fun he => by subst he; exact hj (hk b d hl hb)
    show (w.heap.setIfInBounds r o')[r2]? = _
    rw [Array.getElem?_setIfInBounds_ne (Ne.symm hne)]
  · intro b2 r2 d2 hb2 hx
    have := (R.dom b2 r2 d2 hx).1; omega
  · intro r2 L hL
    by_cases he : r2 = r
    · subst he
      obtain ⟨L', hL'⟩ := hlp L hL
      refine ⟨L', ?_⟩
      show (w.heap.setIfInBounds r2 o')[r2]? = _
      rw [Array.getElem?_setIfInBounds_self]; simp only [hrs, if_true, hL']
    · refine ⟨L, ?_⟩
      show (w.heap.setIfInBounds r o')[r2]? = _
      rw [Array.getElem?_setIfInBounds_ne (Ne.symm he)]; exact hL
end
end Go.RS
