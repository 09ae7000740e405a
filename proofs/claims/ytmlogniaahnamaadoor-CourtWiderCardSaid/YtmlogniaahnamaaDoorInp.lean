/- Inputs: cases, entries, readings and numbers, read from a real heap. -/
import Derived.Test.YtmlogniaahnamaaDoorCpa
import Derived.Test.YtmlogniaahnamaaDoorDL
import Derived.Test.YtmlogniaahnamaaDoorPvc
import Derived.KernelRfl
set_option linter.all false
namespace Go.RS.DC
open Go Go.RS Go.Proofs Go.ChangeShapes Go.WideShapes
open Go.RS.Enc (enc dec)
section
variable {H : Type} {en : TypeId × Value → H} {W : World} {base : Nat} {held : Bool}
def any {α : Type} (_ : α) : Prop := True
theorem Rk.toAny {t : TypeId} {α : Type} [El α] {D : α → Prop} (r : Rk en Tryd.prog W base held t α D) : Rk en Tryd.prog W base held t α any := Rk.mapTo r (fun x => x) rfl (fun _ => rfl) (fun _ _ => trivial)
theorem rd3 : Rk en Tryd.prog W base held 3 Int intOk := .int Tryd.underlying3 (by kernel_rfl)
theorem rd4 : Rk en Tryd.prog W base held 4 Bool (fun _ => True) := .bool Tryd.underlying4 (by kernel_rfl)
theorem rd142 : Rk en Tryd.prog W base held 142 Decree any := Rk.mapTo (Rk.struct Tryd.underlying142 (by kernel_rfl) (RkF.cons rfl rd3 (RkF.last rfl rd4)) : Rk en Tryd.prog W base held 142 (Cat Int Bool) _) (fun x => ⟨x.a, x.b⟩) rfl (fun _ => rfl) (fun _ _ => trivial)
theorem rd22 : Rk en Tryd.prog W base held 22 (List Decree) any := Rk.toAny (.list Tryd.underlying22 (by kernel_rfl) (by decide) rd142)
theorem rd24 : Rk en Tryd.prog W base held 24 Cal any := Rk.mapTo (Rk.struct Tryd.underlying24 (by kernel_rfl) (RkF.cons rfl rd3 (RkF.cons rfl rd3 (RkF.cons rfl rd3 (RkF.cons rfl rd3 (RkF.last rfl rd22))))) : Rk en Tryd.prog W base held 24 (Cat Int (Cat Int (Cat Int (Cat Int (List Decree))))) _) (fun x => ⟨x.a, x.b.a, x.b.b.a, x.b.b.b.a, x.b.b.b.b⟩) rfl (fun _ => rfl) (fun _ _ => trivial)
theorem rd67 : Rk en Tryd.prog W base held 67 Change any := Rk.mapTo (Rk.struct Tryd.underlying67 (by kernel_rfl) (RkF.cons rfl rd3 (RkF.last rfl rd3)) : Rk en Tryd.prog W base held 67 (Cat Int Int) _) (fun x => ⟨x.a, x.b⟩) rfl (fun _ => rfl) (fun _ _ => trivial)
theorem rd25 : Rk en Tryd.prog W base held 25 (List Change) any := Rk.toAny (.list Tryd.underlying25 (by kernel_rfl) (by decide) rd67)
theorem rd27 : Rk en Tryd.prog W base held 27 Town any := Rk.mapTo (Rk.struct Tryd.underlying27 (by kernel_rfl) (RkF.cons rfl rd3 (RkF.last rfl rd25)) : Rk en Tryd.prog W base held 27 (Cat Int (List Change)) _) (fun x => ⟨x.a, x.b⟩) rfl (fun _ => rfl) (fun _ _ => trivial)
theorem rd29 : Rk en Tryd.prog W base held 29 Span any := Rk.mapTo (Rk.struct Tryd.underlying29 (by kernel_rfl) (RkF.cons rfl rd3 (RkF.last rfl rd3)) : Rk en Tryd.prog W base held 29 (Cat Int Int) _) (fun x => ⟨x.a, x.b⟩) rfl (fun _ => rfl) (fun _ _ => trivial)
theorem rd37 : Rk en Tryd.prog W base held 37 Reading any := Rk.mapTo (Rk.struct Tryd.underlying37 (by kernel_rfl) (RkF.cons rfl rd3 (RkF.cons rfl rd3 (RkF.cons rfl rd3 (RkF.last rfl rd3)))) : Rk en Tryd.prog W base held 37 (Cat Int (Cat Int (Cat Int Int))) _) (fun x => ⟨x.a, x.b.a, x.b.b.a, x.b.b.b⟩) rfl (fun _ => rfl) (fun _ _ => trivial)
theorem rd45 : Rk en Tryd.prog W base held 45 Entry any := Rk.mapTo (Rk.struct Tryd.underlying45 (by kernel_rfl) (RkF.cons rfl rd29 (RkF.cons rfl rd29 (RkF.last rfl rd37))) : Rk en Tryd.prog W base held 45 (Cat Span (Cat Span Reading)) _) (fun x => ⟨x.a, x.b.a, x.b.b⟩) rfl (fun _ => rfl) (fun _ _ => trivial)
theorem rd30 : Rk en Tryd.prog W base held 30 (List Entry) any := Rk.toAny (.list Tryd.underlying30 (by kernel_rfl) (by decide) rd45)
theorem rd32 : Rk en Tryd.prog W base held 32 Case any := Rk.mapTo (Rk.struct Tryd.underlying32 (by kernel_rfl) (RkF.cons rfl rd24 (RkF.cons rfl rd27 (RkF.cons rfl rd3 (RkF.cons rfl rd3 (RkF.cons rfl rd29 (RkF.last rfl rd30)))))) : Rk en Tryd.prog W base held 32 (Cat Cal (Cat Town (Cat Int (Cat Int (Cat Span (List Entry)))))) _) (fun x => ⟨x.a, x.b.a, x.b.b.a, x.b.b.b.a, x.b.b.b.b.a, x.b.b.b.b.b⟩) rfl (fun _ => rfl) (fun _ _ => trivial)
theorem rd33 : Rk en Tryd.prog W base held 33 (Arr 4 Int) (fun a => ∀ x ∈ a.l, intOk x) := .arr Tryd.underlying33 (by kernel_rfl) rd3
end
end Go.RS.DC

