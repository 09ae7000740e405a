/- Inputs: calendars, readings, towns and numbers, read from a real heap, and how great they are. -/
import Derived.Test.YtenmjloiadkgjaaDoorDpa
import Derived.Test.YtenmjloiadkgjaaDoorDL
import Derived.Test.YtenmjloiadkgjaaDoorPvc
import Derived.KernelRfl
set_option linter.all false
namespace Go.RS.DC
open Go Go.RS Go.Proofs Go.ChangeShapes Go.WideShapes
open Go.RS.Enc (enc dec)
section
variable {H : Type} {en : TypeId × Value → H} {W : World} {base : Nat} {held : Bool}
def any {α : Type} (_ : α) : Prop := True
def calOk (c : Cal) : Prop := c.Decrees.length ≤ 8796093021952
def townCOk (x : TownC) : Prop := calOk x.C
theorem bytes64 : Tryd.prog.bytesOf 64 = 16 := by kernel_rfl
theorem rd3 : Rk en Tryd.prog W base held 3 Int intOk := .int Tryd.underlying3 (by kernel_rfl)
theorem rd4 : Rk en Tryd.prog W base held 4 Bool (fun _ => True) := .bool Tryd.underlying4 (by kernel_rfl)
theorem rd64 : Rk en Tryd.prog W base held 64 Decree any := Rk.mapTo (Rk.struct Tryd.underlying64 (by kernel_rfl) (RkF.cons rfl rd3 (RkF.last rfl rd4)) : Rk en Tryd.prog W base held 64 (Cat Int Bool) _) (fun x => ⟨x.a, x.b⟩) rfl (fun _ => rfl) (fun _ _ => trivial)
theorem rd22 : Rk en Tryd.prog W base held 22 (List Decree) (listOk (Tryd.prog.bytesOf 64) any) := .list Tryd.underlying22 (by kernel_rfl) (by decide) rd64
theorem rd24 : Rk en Tryd.prog W base held 24 Cal calOk := Rk.mapTo (Rk.struct Tryd.underlying24 (by kernel_rfl) (RkF.cons rfl rd3 (RkF.cons rfl rd3 (RkF.cons rfl rd3 (RkF.cons rfl rd3 (RkF.last rfl rd22))))) : Rk en Tryd.prog W base held 24 (Cat Int (Cat Int (Cat Int (Cat Int (List Decree))))) _) (fun x => ⟨x.a, x.b.a, x.b.b.a, x.b.b.b.a, x.b.b.b.b⟩) rfl (fun _ => rfl) (fun x h => by
  have h2 := h.2.2.2.2.1
  rw [bytes64] at h2
  show x.b.b.b.b.length ≤ 8796093021952
  omega)
theorem rd27 : Rk en Tryd.prog W base held 27 Reading any := Rk.mapTo (Rk.struct Tryd.underlying27 (by kernel_rfl) (RkF.cons rfl rd3 (RkF.cons rfl rd3 (RkF.cons rfl rd3 (RkF.last rfl rd3)))) : Rk en Tryd.prog W base held 27 (Cat Int (Cat Int (Cat Int Int))) _) (fun x => ⟨x.a, x.b.a, x.b.b.a, x.b.b.b⟩) rfl (fun _ => rfl) (fun _ _ => trivial)
theorem rd82 : Rk en Tryd.prog W base held 82 Change any := Rk.mapTo (Rk.struct Tryd.underlying82 (by kernel_rfl) (RkF.cons rfl rd3 (RkF.last rfl rd3)) : Rk en Tryd.prog W base held 82 (Cat Int Int) _) (fun x => ⟨x.a, x.b⟩) rfl (fun _ => rfl) (fun _ _ => trivial)
theorem rd42 : Rk en Tryd.prog W base held 42 (List Change) (listOk (Tryd.prog.bytesOf 82) any) := .list Tryd.underlying42 (by kernel_rfl) (by decide) rd82
theorem rd44 : Rk en Tryd.prog W base held 44 Town any := Rk.mapTo (Rk.struct Tryd.underlying44 (by kernel_rfl) (RkF.cons rfl rd3 (RkF.last rfl rd42)) : Rk en Tryd.prog W base held 44 (Cat Int (List Change)) _) (fun x => ⟨x.a, x.b⟩) rfl (fun _ => rfl) (fun _ _ => trivial)
theorem rd46 : Rk en Tryd.prog W base held 46 TownC townCOk := Rk.mapTo (Rk.struct Tryd.underlying46 (by kernel_rfl) (RkF.cons rfl rd24 (RkF.last rfl rd44)) : Rk en Tryd.prog W base held 46 (Cat Cal Town) _) (fun x => ⟨x.a, x.b⟩) rfl (fun _ => rfl) (fun x h => h.1)
theorem rd25 : Rk en Tryd.prog W base held 25 (Arr 2 Int) (fun a => ∀ x ∈ a.l, intOk x) := .arr Tryd.underlying25 (by kernel_rfl) rd3
theorem rd69 : Rk en Tryd.prog W base held 69 (Arr 3 Int) (fun a => ∀ x ∈ a.l, intOk x) := .arr Tryd.underlying69 (by kernel_rfl) rd3
theorem rd38 : Rk en Tryd.prog W base held 38 (Arr 2 Reading) (fun a => ∀ x ∈ a.l, any x) := .arr Tryd.underlying38 (by kernel_rfl) rd27
theorem rd67 : Rk en Tryd.prog W base held 67 (Arr 3 Reading) (fun a => ∀ x ∈ a.l, any x) := .arr Tryd.underlying67 (by kernel_rfl) rd27
end
end Go.RS.DC

