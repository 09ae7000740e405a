/- Inputs: books, texts, plans, calendars, readings and numbers, read from a real heap. -/
import Derived.Test.YtcbkaiakncbcbaaDoorVpa
import Derived.Test.YtcbkaiakncbcbaaDoorDpa
import Derived.Test.YtcbkaiakncbcbaaDoorDL
import Derived.Test.YtcbkaiakncbcbaaDoorPvc
import Derived.KernelRfl
set_option linter.all false
namespace Go.RS.DC
open Go Go.RS Go.Proofs Go.ChangeShapes Go.WideShapes
open Go.RS.Enc (enc dec)
section
variable {H : Type} {en : TypeId × Value → H} {W : World} {base : Nat} {held : Bool}
def any {α : Type} (_ : α) : Prop := True
theorem Rk.toAny {t : TypeId} {α : Type} [El α] {D : α → Prop} (r : Rk en Tryd.prog W base held t α D) : Rk en Tryd.prog W base held t α any := Rk.mapTo r (fun x => x) rfl (fun _ => rfl) (fun _ _ => trivial)
theorem rd3 : Rk en Tryd.prog W base held 3 Int intOk := .int Tryd.underlying3 (by kernel_rfl)
theorem rd22 : Rk en Tryd.prog W base held 22 (List Int) any := Rk.toAny (.list Tryd.underlying22 (by kernel_rfl) (by decide) rd3)
theorem rd25 : Rk en Tryd.prog W base held 25 Span any := Rk.mapTo (Rk.struct Tryd.underlying25 (by kernel_rfl) (RkF.cons rfl rd3 (RkF.last rfl rd3)) : Rk en Tryd.prog W base held 25 (Cat Int Int) _) (fun x => ⟨x.a, x.b⟩) rfl (fun _ => rfl) (fun _ _ => trivial)
theorem rd67 : Rk en Tryd.prog W base held 67 Piece any := Rk.mapTo (Rk.struct Tryd.underlying67 (by kernel_rfl) (RkF.cons rfl rd22 (RkF.cons rfl rd3 (RkF.cons rfl rd3 (RkF.last rfl rd3)))) : Rk en Tryd.prog W base held 67 (Cat (List Int) (Cat Int (Cat Int Int))) _) (fun x => ⟨x.a, x.b.a, x.b.b.a, x.b.b.b⟩) rfl (fun _ => rfl) (fun _ _ => trivial)
theorem rd23 : Rk en Tryd.prog W base held 23 (List Piece) any := Rk.toAny (.list Tryd.underlying23 (by kernel_rfl) (by decide) rd67)
theorem rd27 : Rk en Tryd.prog W base held 27 Book any := Rk.mapTo (Rk.struct Tryd.underlying27 (by kernel_rfl) (RkF.cons rfl rd22 (RkF.cons rfl rd23 (RkF.cons rfl rd25 (RkF.last rfl rd25)))) : Rk en Tryd.prog W base held 27 (Cat (List Int) (Cat (List Piece) (Cat Span Span))) _) (fun x => ⟨x.a, x.b.a, x.b.b.a, x.b.b.b⟩) rfl (fun _ => rfl) (fun _ _ => trivial)
theorem rd63 : Rk en Tryd.prog W base held 63 (Arr 2 Int) (fun a => ∀ x ∈ a.l, intOk x) := .arr Tryd.underlying63 (by kernel_rfl) rd3
end
end Go.RS.DC

